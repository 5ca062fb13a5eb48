/- Several texts in one: Rq, Rw, Qs. -/
import Derived.RangeFuncNested
import Derived.RangeFuncBound
import Derived.RangeFuncCalls
import Derived.RangeFuncLeaves
import Derived.RangeFuncBox
import Derived.Test.YtklfficlegfhjaaGreatC1
import Derived.TacticsInMore
import Derived.OwnWalkIn
import Derived.LoopNIn
import Derived.LoopIn
import Derived.Shelf.Abstract
import Derived.Shelf.RegionOpen
import Derived.Test.YtklfficlegfhjaaGreatC4
import Derived.Test.YtklfficlegfhjaaGreatC3
import Derived.Test.YtklfficlegfhjaaGreatC6
/- A range over a function whose iterator may keep state of its own in cells: the contract of an iterator (Itr) and the law of the statement (wp_range). -/
namespace Go.Proofs.YtklfficlegfhjaaGreat
open Go Go.RowKit

theorem Kp.put {S : Nat → Prop} {w w1 : World} (h : Kp S w w1) {r : Nat} (hr : S r ∨ w.heap.size ≤ r) (o : Obj) : Kp S w (w1.putObj r o) :=
 ⟨h.os, h.tape, h.output, by rw [World.putObj_size]; exact h.size, fun i hi hn => (World.putObj_heap_other (fun e => by
  subst e
  rcases hr with hr | hr
  ·
   exact hn hr
  ·
   omega)).trans (h.block i hi hn)⟩

/-- J minds no step that turns blocks from B on alone, and none of S. -/
def Abid (B : Nat) (J : Nat → (Nat → Prop) → World → Prop) : Prop := ∀ k S A A', J k S A → Kp (fun i => B ≤ i ∧ ¬ S i) A A' → J k S A'

/-- What a round may turn, and what it may call its own behind it: S of the caller's own, G of what it has been handed, what is new since the heap had z blocks. -/
def RoundTo (B : Nat) (need S G : Nat → Prop) (z : Nat) (A : World) (S' : Nat → Prop) (A' : World) : Prop :=
 Kp (fun i => S i ∨ (i < B ∧ ¬ need i)) A A' ∧ ∀ i, S' i → i < A'.heap.size ∧ (S i ∨ G i ∨ z ≤ i)

/-- THE ITERATOR g, with what it has captured, called in W: it hands out xs, one by one, until a round says 'no more'. need: the blocks below that it reads between two rounds. -/
def Itr {α : Type} (F : Fence) (P : Program) (g : Nat) (lb : Array Value) (need : Nat → Prop) (xs : List α) (E : α → Array Value → (Nat → Prop) → World → Prop) (W : World) : Prop :=
 ∀ (n l : Nat) (J Jx : Nat → (Nat → Prop) → World → Prop), Abid W.heap.size J → Abid W.heap.size Jx →
  (∀ (m k : Nat) (x : α) (vs : Array Value) (G S : Nat → Prop) (A : World), xs[k]? = some x → E x vs G A → (∀ i, G i → W.heap.size ≤ i ∧ i < A.heap.size ∧ ¬ S i) → (∀ i, S i → W.heap.size ≤ i ∧ i < A.heap.size) → J k S A →
   YieldAt F m P l vs A fun e A' =>
    (e = .returned (.bool true) ∧ ∃ S', J (k + 1) S' A' ∧ RoundTo W.heap.size need S G A.heap.size A S' A') ∨
    (e = .returned (.bool false) ∧ ∃ S', Jx (k + 1) S' A' ∧ RoundTo W.heap.size need S G A.heap.size A S' A')) →
  J 0 (fun _ => False) W →
  CallsIn F n P g (#[.func (.yield l) #[] #[]] ++ lb) W fun e W' => (∃ v, e = .returned v) ∧
   ((∃ S, J xs.length S W' ∧ ∀ i, S i → W.heap.size ≤ i ∧ i < W'.heap.size) ∨ (∃ k S, k ≤ xs.length ∧ Jx k S W' ∧ ∀ i, S i → W.heap.size ≤ i ∧ i < W'.heap.size))

theorem Itr.mono {α : Type} {F : Fence} {P : Program} {g : Nat} {lb : Array Value} {need : Nat → Prop} {xs : List α} {E E' : α → Array Value → (Nat → Prop) → World → Prop} {W : World}
  (h : Itr F P g lb need xs E W) (hE : ∀ x vs G A, E x vs G A → E' x vs G A) : Itr F P g lb need xs E' W := fun n l J Jx hJ hJx hY h0 =>
 h n l J Jx hJ hJx (fun m k x vs G S A hx he hG hS hj => hY m k x vs G S A hx (hE _ _ _ _ he) hG hS hj) h0

/-- How a round's body may be left. -/
def roundEnd (B : Nat) (need : Nat → Prop) (I : Nat → (Nat → Prop) → World → Prop) (Ix : Code → Nat → (Nat → Prop) → World → Prop) (k : Nat) (S G : Nat → Prop) (z : Nat) (A : World) : Exit → Act → World → Prop
 | .normal, _, A' => ∃ S', I (k + 1) S' A' ∧ RoundTo B need S G z A S' A'
 | .ret, _, A' => ∃ S', Ix .ret (k + 1) S' A' ∧ RoundTo B need S G z A S' A'
 | .exit id, _, A' => ∃ S', Ix (.exit id) (k + 1) S' A' ∧ RoundTo B need S G z A S' A'
 | .goto t, _, A' => ∃ S', Ix (.goto t) (k + 1) S' A' ∧ RoundTo B need S G z A S' A'
 | .panic _, _, _ => False
 | .outgrown, _, _ => False

section
variable {α : Type} {F : Fence} {n : Nat} {P : Program} {g : Operand} {ps : Array Tmp} {assign body : Code} {Q : Exit → Act → World → Prop} {a : Act} {w : World}
/-- THE STATEMENT 'for x := range g { body }', outside of a round. -/
theorem wp_range (hro : F.round = none) (hd : F.depth = none) {gf : Nat} {lb : Array Value} (hg : a.eval g = .func (.func gf) #[] lb) (hFg : F.fn gf) (eg : ∀ args w, (callFunc gf args).run P w = .ok (.enter gf args) w)
  {need : Nat → Prop} {xs : List α} {E : α → Array Value → (Nat → Prop) → World → Prop} (hit : ∀ W1, Below w.heap.size w W1 → Itr F P gf lb need xs E W1) (hneed : ∀ i, need i → i < w.heap.size)
  (hps : ∀ x vs G A, E x vs G A → vs.size = ps.size)
  (I : Nat → (Nat → Prop) → World → Prop) (Ix : Code → Nat → (Nat → Prop) → World → Prop) (hI : Abid w.heap.size I) (hIx : ∀ c, Abid w.heap.size (Ix c)) (h0 : I 0 (fun _ => False) w)
  (hround : ∀ (l m k : Nat) (x : α) (vs : Array Value) (G S : Nat → Prop) (A : World), xs[k]? = some x → E x vs G A → (∀ i, G i → w.heap.size ≤ i ∧ i < A.heap.size ∧ ¬ S i) → (∀ i, S i → w.heap.size ≤ i ∧ i < A.heap.size) → I k S A → (w.heap.size ≤ l ∧ l < A.heap.size ∧ ¬ S l ∧ ¬ G l) →
   assign.wpIn (F.inRound l) m P (Exit.then (fun a₁ A1 => Kp (fun _ => False) A A1 ∧ ∀ A2, Kp (fun i => i = l) A1 A2 → A2.heap.size = A1.heap.size → body.wpIn (F.inRound l) m P (roundEnd w.heap.size need I Ix k S G A.heap.size A2) a₁ A2) (fun _ _ _ => False)) { tmps := (ps.zip vs).foldl (fun t (p, v) => t.setIfInBounds p v) a.tmps, defers := [] } A)
  (hdone : ∀ (D : Nat) (S : Nat → Prop) (A : World), w.heap.size ≤ D → (∀ i, S i → w.heap.size ≤ i ∧ i < A.heap.size ∧ i ≠ D) → I xs.length S A → A.heap[D]? = some (.deferred (some [])) → Q .normal { a with defers := { target := .collected D, args := #[] } :: a.defers } A)
  (hstop : ∀ (D : Nat) (c : Code) (k : Nat) (S : Nat → Prop) (A : World), w.heap.size ≤ D → (∀ i, S i → w.heap.size ≤ i ∧ i < A.heap.size ∧ i ≠ D) → k ≤ xs.length → Ix c k S A → A.heap[D]? = some (.deferred (some [])) → c.wpIn F n P Q { a with defers := { target := .collected D, args := #[] } :: a.defers } A) :
  (Code.rangeFunc g ps assign body).wpIn F n P Q a w := by
 refine wpIn_rangeFunc ?_
 intro fn hfn
 rw [hro]
 obtain ⟨rec, hrec⟩ : ∃ rec : LoopState → Option Code → Loop, rec = fun st pe => { state := st, pending := pe, fn, tmps := a.tmps, params := ps, assign, body, defers := w.heap.size } := ⟨_, rfl⟩
 obtain ⟨W1, hW1⟩ : ∃ W1, (w.alloc (.deferred (some []))).alloc (.loop (rec .ready none)) = W1 := ⟨_, rfl⟩
 have hs1 : W1.heap.size = w.heap.size + 2 := by rw [← hW1]; simp
 have hL1 : W1.heap[w.heap.size + 1]? = some (.loop (rec .ready none)) := by
  rw [← hW1]; have := World.alloc_heap_new (w.alloc (.deferred (some []))) (.loop (rec .ready none)); rwa [World.size_alloc] at this
 have hK1 : W1.heap[w.heap.size]? = some (.deferred (some [])) := by
  rw [← hW1]; exact (Below.heap_alloc _ _ _ (by simp)).trans (World.alloc_heap_new w _)
 have hb1 : Below w.heap.size w W1 := by
  rw [← hW1]; exact (((Below.refl _ w).alloc (Nat.le_refl _) _).alloc (by simp) _)
 have hI1 : I 0 (fun _ => False) W1 := hI _ _ _ _ h0 (Kp.of_below hb1)
 have hdp : F.depth.isSome = true → 1 ≤ n := fun h => by rw [hd] at h; cases h
 refine ⟨w.heap.size + 1, [{ target := .collected w.heap.size, args := #[] }], W1, { target := .fn (.func gf) lb, args := #[.func (.yield (w.heap.size + 1)) #[] #[]] }, W1, gf,
  #[.func (.yield (w.heap.size + 1)) #[] #[]] ++ lb, W1, ?_, ?_, ?_, ?_, hdp, ?_⟩
 ·
  rw [← hW1, hrec]; exact run_enterLoop_outer _ _ _ _ _
 ·
  simp only [resolve, hg]
  simp [go_sem]
 ·
  intro f' hf'; simp [Target.leads] at hf'; subst hf'; exact hFg
 ·
  simp [invoke, go_sem, eg]
 ·
  have hab : ∀ {S : Nat → Prop} {A A' : World}, Kp (fun i => W1.heap.size ≤ i ∧ ¬ S i) A A' → Kp (fun i => w.heap.size ≤ i ∧ ¬ S i) A A' := fun h => h.mono (fun i _ hi => ⟨by omega, hi.2⟩)
  have hfix : ∀ {S : Nat → Prop} {A A' : World} {i : Nat} {o : Obj}, i < W1.heap.size → Kp (fun i => W1.heap.size ≤ i ∧ ¬ S i) A A' → A.heap[i]? = some o → A'.heap[i]? = some o := fun hi h ho => (h.block _ (Array.getElem?_eq_some_iff.1 ho).1 (fun hc => by have := hc.1; omega)).trans ho
  refine (hit W1 hb1 (n - 1) (w.heap.size + 1)
   (fun k S A => I k S A ∧ A.heap[w.heap.size + 1]? = some (.loop (rec .ready none)) ∧ A.heap[w.heap.size]? = some (.deferred (some [])))
   (fun k S A => ∃ c, Ix c k S A ∧ A.heap[w.heap.size + 1]? = some (.loop (rec .done (some c))) ∧ A.heap[w.heap.size]? = some (.deferred (some [])))
   (fun k S A A' hj hk => ⟨hI k S A A' hj.1 (hab hk), hfix (by omega) hk hj.2.1, hfix (by omega) hk hj.2.2⟩)
   (fun k S A A' hj hk => let ⟨c, h1, h2, h3⟩ := hj; ⟨c, hIx c k S A A' h1 (hab hk), hfix (by omega) hk h2, hfix (by omega) hk h3⟩)
   ?_ ⟨hI1, hL1, hK1⟩).mono ?_
  ·
   rintro m k x vs G S A hx he hG hS ⟨hi, hl, hk⟩
   have hlt : w.heap.size + 1 < A.heap.size := (Array.getElem?_eq_some_iff.1 hl).1
   have hy := run_yield (P := P) (args := vs) hl (by rw [hrec]; exact hps x vs G A he)
   rw [hrec] at hy
   have hSl : ¬ S (w.heap.size + 1) := fun h => by have := (hS _ h).1; omega
   have hGl : ¬ G (w.heap.size + 1) := fun h => by have := (hG _ h).1; omega
   have hSl0 : ¬ S w.heap.size := fun h => by have := (hS _ h).1; omega
   have hnl : ¬ need (w.heap.size + 1) := fun h => by have := hneed _ h; omega
   refine ⟨fn, _, assign, body, hy, roundIn_of_wpIn hfn (wpIn_mono (hround (w.heap.size + 1) m k x vs G S A hx he (fun i h => ⟨by have := (hG i h).1; omega, (hG i h).2.1, (hG i h).2.2⟩) (fun i h => ⟨by have := (hS i h).1; omega, (hS i h).2⟩) hi ⟨by omega, hlt, hSl, hGl⟩) ?_)⟩
   clear hy
   rintro ea a1 A1 hA
   cases ea with
   | normal => ?_
   | ret => exact hA.elim
   | exit id => exact hA.elim
   | goto t => exact hA.elim
   | panic ch => exact hA.elim
   | outgrown => exact hA.elim
   obtain ⟨hkA, hA⟩ := hA
   replace hl := (hkA.block _ hlt (fun h => h)).trans hl
   replace hk := (hkA.block _ (by omega) (fun h => h)).trans hk
   have hlt1 : w.heap.size + 1 < A1.heap.size := (Array.getElem?_eq_some_iff.1 hl).1
   refine ⟨_, run_beginRound hl (by rw [hrec]), ?_⟩
   obtain ⟨A2, hA2⟩ : ∃ A2, A2 = A1.putObj (w.heap.size + 1) (.loop { rec .ready none with state := .busy }) := ⟨_, rfl⟩
   rw [← hA2]
   have hl2 : A2.heap[w.heap.size + 1]? = some (.loop { rec .ready none with state := .busy }) := by rw [hA2]; exact World.putObj_heap_same hlt1
   have hk2 : A2.heap[w.heap.size]? = some (.deferred (some [])) := by rw [hA2]; exact (World.putObj_heap_other (by omega)).trans hk
   have hs2 : A2.heap.size = A1.heap.size := by rw [hA2]; simp
   have hp2 : ∀ T : Nat → Prop, T (w.heap.size + 1) → Kp T A1 A2 := fun T hT => by rw [hA2]; exact (Kp.refl T A1).put (.inl hT) _
   refine wpIn_mono (hA A2 (hp2 _ rfl) hs2) ?_
   have fin : ∀ (jump : Option Code) (S' : Nat → Prop) (A3 : World), RoundTo w.heap.size need S G A.heap.size A2 S' A3 →
     ∃ A4, (Instr.endRound (w.heap.size + 1) jump).run P A3 = .ok (.bool jump.isNone) A4 ∧ Kp (fun i => w.heap.size ≤ i ∧ ¬ S' i) A3 A4 ∧ RoundTo W1.heap.size need S G A.heap.size A S' A4 ∧
     A4.heap[w.heap.size + 1]? = some (.loop (rec (if jump.isNone then .ready else .done) jump)) ∧ A4.heap[w.heap.size]? = some (.deferred (some [])) := fun jump S' A3 hr3 => by
    have hl3 : A3.heap[w.heap.size + 1]? = some (.loop { rec .ready none with state := .busy }) := (hr3.1.block _ (by omega) (by rintro (h | h); exact hSl h; have := h.1; omega)).trans hl2
    have hk3 : A3.heap[w.heap.size]? = some (.deferred (some [])) := (hr3.1.block _ (by omega) (by rintro (h | h); exact hSl0 h; have := h.1; omega)).trans hk2
    have hS'l : ¬ S' (w.heap.size + 1) := fun h => by
     rcases (hr3.2 _ h).2 with h | h | h
     ·
      exact hSl h
     ·
      exact hGl h
     ·
      omega
    have hrun := run_endRound (P := P) jump hl3
    rw [hrec] at hrun
    refine ⟨_, hrun, (Kp.refl _ _).put (.inl ⟨by omega, hS'l⟩) _, ⟨?_, fun i h => ⟨by rw [World.putObj_size]; exact (hr3.2 i h).1, ?_⟩⟩, ?_, ?_⟩
    ·
     refine Kp.put ?_ (.inl (.inr ⟨by omega, hnl⟩)) _
     exact ((hkA.mono (fun _ _ h => h.elim)).trans (hp2 _ (.inr ⟨by omega, hnl⟩))).trans (hr3.1.mono (fun i _ h => h.elim .inl (fun h => .inr ⟨by omega, h.2⟩)))
    ·
     exact (hr3.2 i h).2
    ·
     have h9 := World.putObj_heap_same (w := A3) (o := .loop (rec (if jump.isNone then .ready else .done) jump)) (Array.getElem?_eq_some_iff.1 hl3).1
     rw [hrec] at h9 ⊢
     exact h9
    ·
     exact (World.putObj_heap_other (by omega)).trans hk3
   rintro e a3 A3 hp
   cases e with
   | normal =>
    obtain ⟨S', hi3, hr3⟩ := hp
    obtain ⟨A4, hr, hk4, hr4, hl4, hd4⟩ := fin none S' A3 hr3
    exact ⟨_, _, hr, .inl ⟨rfl, S', ⟨hI _ _ _ _ hi3 hk4, hl4, hd4⟩, hr4⟩⟩
   | ret =>
    obtain ⟨S', hi3, hr3⟩ := hp
    obtain ⟨A4, hr, hk4, hr4, hl4, hd4⟩ := fin (some .ret) S' A3 hr3
    exact ⟨_, _, hr, .inr ⟨rfl, S', ⟨.ret, hIx _ _ _ _ _ hi3 hk4, hl4, hd4⟩, hr4⟩⟩
   | exit id =>
    obtain ⟨S', hi3, hr3⟩ := hp
    obtain ⟨A4, hr, hk4, hr4, hl4, hd4⟩ := fin (some (.exit id)) S' A3 hr3
    exact ⟨_, _, hr, .inr ⟨rfl, S', ⟨.exit id, hIx _ _ _ _ _ hi3 hk4, hl4, hd4⟩, hr4⟩⟩
   | goto t =>
    obtain ⟨S', hi3, hr3⟩ := hp
    obtain ⟨A4, hr, hk4, hr4, hl4, hd4⟩ := fin (some (.goto t)) S' A3 hr3
    exact ⟨_, _, hr, .inr ⟨rfl, S', ⟨.goto t, hIx _ _ _ _ _ hi3 hk4, hl4, hd4⟩, hr4⟩⟩
   | panic ch => exact hp.elim
   | outgrown => exact hp.elim
  ·
   have hend : ∀ {S : Nat → Prop} {A : World} (o : Obj), (∀ i, S i → W1.heap.size ≤ i ∧ i < A.heap.size) → Kp (fun i => w.heap.size ≤ i ∧ ¬ S i) A (A.putObj (w.heap.size + 1) o) := fun o hS => (Kp.refl _ _).put (.inl ⟨by omega, fun h => by have := (hS _ h).1; omega⟩) _
   rintro e W2 ⟨⟨v, rfl⟩, (⟨S, ⟨hi, hl, hk⟩, hS⟩ | ⟨k, S, hk0, ⟨c, hi, hl, hk⟩, hS⟩)⟩
   ·
    exact ⟨none, _, by have := run_endLoop (P := P) hl (by rw [hrec]; simp); rw [hrec] at this; exact this, hdone _ S _ (Nat.le_refl _) (fun i h => ⟨by have := (hS i h).1; omega, by rw [World.putObj_size]; exact (hS i h).2, by have := (hS i h).1; omega⟩) (hI _ _ _ _ hi (hend _ hS)) ((World.putObj_heap_other (by omega)).trans hk)⟩
   ·
    exact ⟨some c, _, by have := run_endLoop (P := P) hl (by rw [hrec]; simp); rw [hrec] at this; exact this, hstop _ c k S _ (Nat.le_refl _) (fun i h => ⟨by have := (hS i h).1; omega, by rw [World.putObj_size]; exact (hS i h).2, by have := (hS i h).1; omega⟩) hk0 (hIx c _ _ _ _ hi (hend _ hS)) ((World.putObj_heap_other (by omega)).trans hk)⟩
end

/-- A frame's marks: each names a block of deferred calls that is open and empty. -/
def Marks (B : Nat) (ds : List Deferred) (w : World) : Prop := ∃ Ds : List Nat, ds = Ds.map (fun D => { target := .collected D, args := #[] }) ∧ Ds.Nodup ∧ ∀ D ∈ Ds, B ≤ D ∧ w.heap[D]? = some (.deferred (some []))
theorem Marks.nil (B : Nat) (w : World) : Marks B [] w := ⟨[], rfl, List.nodup_nil, fun _ h => by cases h⟩
/-- On the way out all marks are struck. -/
theorem Marks.leaves {F : Fence} {n : Nat} {P : Program} {fn : Func} {tmps : Array Value} {R : Ending → World → Prop} {B : Nat} : ∀ {ds : List Deferred} {w : World}, Marks B ds w →
  (∀ w', Kp (fun i => B ≤ i ∧ ∃ o, w.heap[i]? = some (.deferred o)) w w' → LeavesIn F n P fn tmps R [] .returning w') → LeavesInM F n P fn tmps R ds .returning w := by
 rintro ds w ⟨Ds, rfl, hnd, hD⟩ h
 induction Ds generalizing w with
 | nil => exact h w (Kp.refl _ _)
 | cons D Ds ih =>
  have h1 := hD D (by simp)
  refine ⟨by simp, .inl ⟨D, _, rfl, run_takeDeferred h1.2, ?_⟩⟩
  rw [List.nodup_cons] at hnd
  refine ih hnd.2 (fun D' hm => ⟨(hD D' (by simp [hm])).1, (World.putObj_heap_other (fun (e : D' = D) => hnd.1 (by rw [← e]; exact hm))).trans (hD D' (by simp [hm])).2⟩) (fun w' hk => h w' ?_)
  refine ((Kp.refl _ w).put (.inl ⟨h1.1, _, h1.2⟩) _).trans (hk.mono (fun i _ hi => ⟨hi.1, ?_⟩))
  obtain ⟨o, ho⟩ := hi.2
  by_cases e : i = D
  ·
   subst e; exact ⟨_, h1.2⟩
  ·
   exact ⟨o, (World.putObj_heap_other e).symm.trans ho⟩
end Go.Proofs.YtklfficlegfhjaaGreat
/- Plain laws at an operation, used within a fence (the wide one, in a round or not). -/
namespace Go.Proofs.YtklfficlegfhjaaGreat
open Go Go.RowKit

/-- The wide fence; ro: in a round of that loop. -/
abbrev Fw (ro : Option Nat) : Fence := { Fence.wide with round := ro }
theorem fw_calls {ro : Option Nat} {n : Nat} {P : Program} {f : FuncId} {args : Array Value} {w : World} {R : Ending → World → Prop} (h : Calls P f args w R) : CallsIn (Fw ro) n P f args w R := callsIn_wide.2 h
theorem calls_fw {ro : Option Nat} {n : Nat} {P : Program} {f : FuncId} {args : Array Value} {w : World} {R : Ending → World → Prop} (h : CallsIn (Fw ro) n P f args w R) : Calls P f args w R := (callsIn_wide (n := n)).1 h
theorem fw_rows {ro : Option Nat} {n : Nat} {P : Program} {row : String} {args : Array Value} {w : World} {R : Value → World → Prop} (h : Rows P row args w R) : RowsIn (Fw ro) n P row args w R := fun c cs _ =>
 let ⟨v, w', r, s⟩ := h c cs; ⟨v, w', r, stepsIn_wide.2 s⟩
def onlyN (K : Act → World → Prop) : Exit → Act → World → Prop := fun e a w => e = .normal ∧ K a w
theorem fw_list {ro : Option Nat} {n : Nat} {P : Program} {ops : Array Oper} {Q : Exit → Act → World → Prop} {rest : List Oper} {o : Oper} {a : Act} {w : World} (hnd : ∀ c, o.op ≠ .defer c)
  (h : wpList P ops (onlyN (wpListIn (Fw ro) n P ops Q rest)) [o] a w) : wpListIn (Fw ro) n P ops Q (o :: rest) a w := by
 have hno : ¬ LetsOut (onlyN (wpListIn (Fw ro) n P ops Q rest)) := fun ⟨_, _, h⟩ => by cases h.1
 unfold wpList at h
 unfold wpListIn
 by_cases hw : Region.wanted o (yielded ops a.tmps) = true
 ·
  rw [if_pos hw] at h ⊢
  rcases h with h | h
  ·
   refine ⟨fun _ _ => trivial, ?_⟩
   rw [Oper.semAt_plain _ _ _ hnd]
   unfold Oper.wp at h
   revert h
   cases (execOp a.eval o).run P w with
   | halt s w' =>
    cases s <;> intro h <;> first | exact h.elim | (exact absurd h.1 (by intro e; cases e))
   | ok r w' =>
    cases r with
    | value v => intro h; exact h.2
    | skip => intro h; exact h.2
    | defer d => intro h; exact h.2
    | enter f args =>
     intro h
     refine ⟨fun hd => (by cases hd), fw_calls (h.mono ?_)⟩
     intro e w2 hr
     cases e with
     | returned v => exact hr.2
     | panicked c => exact absurd hr.1 (by intro e; cases e)
     | outgrown => exact absurd hr hno
    | row r args =>
     intro h
     exact ⟨fun hd => (by cases hd), fw_rows (h.mono fun v w2 hr => hr.2)⟩
    | _ => intro h; exact h.elim
  ·
   exact absurd h.2 hno
 ·
  rw [Bool.not_eq_true] at hw
  rw [hw] at h ⊢
  simp only [Bool.false_eq_true, if_false] at h ⊢
  exact ⟨fun _ _ => trivial, h.2⟩
theorem onlyN_no (K : Act → World → Prop) : ¬ LetsOut (onlyN K) := fun ⟨_, _, h⟩ => by cases h.1
theorem wpAny_in {ro : Option Nat} {n : Nat} {P : Program} {md : Region.Mode} {ops : Array Oper} {Q : Exit → Act → World → Prop} (hnd : ∀ (i : Nat) (o : Oper), ops[i]? = some o → ∀ c, o.op ≠ .defer c) : ∀ (fuel : Nat) (listed : Array Bool) (a : Act) (w : World),
  wpAny P md ops (onlyN (Q .normal)) fuel listed a w → wpAnyIn (Fw ro) n P md ops Q fuel listed a w
 | 0, _, _, _, h => ⟨h.1, h.2.2⟩
 | fuel + 1, listed, a, w, h => by
  refine ⟨fun hr => (h.1 hr).2, fun i hi => ?_⟩
  have hop := h.2 i hi
  unfold wpOp at hop
  unfold wpOpIn
  cases ho : ops[i]? with
  | none => rw [ho] at hop; exact wpAny_in hnd fuel _ _ _ hop
  | some o =>
   rw [ho] at hop
   dsimp only at hop ⊢
   by_cases hw : Region.wanted o (yielded ops a.tmps) = true
   ·
    rw [if_pos hw] at hop ⊢
    rcases hop with h1 | h1
    ·
     refine ⟨fun _ _ => trivial, ?_⟩
     rw [Oper.semAt_plain _ _ _ (hnd i o ho)]
     unfold Oper.wp at h1
     revert h1
     cases (execOp a.eval o).run P w with
     | halt s w' =>
      cases s <;> intro h1 <;> first | exact h1.elim | (exact absurd h1.1 (by intro e; cases e))
     | ok r w' =>
      cases r with
      | value v => intro h1; exact wpAny_in hnd fuel _ _ _ h1
      | skip => intro h1; exact wpAny_in hnd fuel _ _ _ h1
      | defer d => intro h1; exact wpAny_in hnd fuel _ _ _ h1
      | enter f args =>
       intro h1
       refine ⟨fun hd => (by cases hd), fw_calls (h1.mono ?_)⟩
       intro e w2 hr
       cases e with
       | returned v => exact wpAny_in hnd fuel _ _ _ hr
       | panicked c => exact absurd hr.1 (by intro e; cases e)
       | outgrown => exact absurd hr (onlyN_no _)
      | row r args =>
       intro h1
       exact ⟨fun hd => (by cases hd), fw_rows (h1.mono fun v w2 hr => wpAny_in hnd fuel _ _ _ hr)⟩
      | _ => intro h1; exact h1.elim
    ·
     exact absurd h1.2 (onlyN_no _)
   ·
    rw [Bool.not_eq_true] at hw
    rw [hw] at hop ⊢
    simp only [Bool.false_eq_true, if_false] at hop ⊢
    exact ⟨fun _ _ => trivial, wpAny_in hnd fuel _ _ _ hop⟩
namespace Text
/-- A region that draws its order, in a fence. -/
theorem wp_region_text_in {ro : Option Nat} {n : Nat} {P : Program} {ops : Array Oper} {Q : Exit → Act → World → Prop} {id : Nat} {a : Act} {w : World} (S : World → Prop) (L : List (Nat × Nat)) (hm : P.follows .mixedOrders = true) (hB : textB ops L = true)
  (hnd : ∀ (i : Nat) (o : Oper), ops[i]? = some o → ∀ c, o.op ≠ .defer c) (hS : S w.drew) (h : wpText P ops (onlyN (Q .normal)) S L a w.drew) : (Code.region id ops true).wpIn (Fw ro) n P Q a w := by
 simp only [textB, Bool.and_eq_true, decide_eq_true_eq] at hB
 obtain ⟨⟨⟨⟨⟨h1, h2⟩, h3⟩, h4⟩, hlen⟩, h5⟩ := hB
 refine wpIn_region_any hm (wpAny_in hnd _ _ _ _ ?_)
 refine wpAny_of_text (S := S) (Region.noSelect_spec h1) (fun c a w d v h => absurd h.1 (by intro e; cases e)) ops.size L _ a _ hlen ⟨by simp, fun i => ?_, h4, fun j p hp hl => ?_, pairsB_spec h5, fun x hx p hp => ?_⟩ (fun _ => hS) h
 ·
  rw [getD_replicate_false]
  constructor
  ·
   intro hi
   obtain ⟨x, hx, rfl⟩ := List.mem_map.1 hi
   have := List.all_eq_true.1 h3 x hx
   simp only [Bool.and_eq_true, decide_eq_true_eq] at this
   exact ⟨this.1, rfl⟩
  ·
   rintro ⟨hi, _⟩
   have := List.all_eq_true.1 h2 i (List.mem_range.2 hi)
   simpa using this
 ·
  rw [getD_replicate_false] at hl; cases hl
 ·
  have := List.all_eq_true.1 h3 x hx
  simp only [Bool.and_eq_true] at this
  have h6 := List.all_eq_true.1 this.2 p hp
  simp only [Bool.and_eq_true, decide_eq_true_eq] at h6
  exact ⟨h6.1, by simpa using h6.2⟩
end Text
theorem nodef {ops : Array Oper} (h : (ops.toList.all fun (o : Oper) => match o.op with | .defer _ => false | _ => true) = true) : ∀ (i : Nat) (o : Oper), ops[i]? = some o → ∀ c, o.op ≠ .defer c := fun i o ho c e => by
 have := List.all_eq_true.1 h o (by rw [← Array.getElem?_toList] at ho; exact List.mem_of_getElem? ho)
 rw [e] at this
 cases this
theorem fw_back {P : Program} {ops : Array Oper} {K : Act → World → Prop} {a : Act} {w : World} (h : K a w) : wpList P ops (onlyN K) [] a w := ⟨rfl, h⟩
end Go.Proofs.YtklfficlegfhjaaGreat
/- slices.Values of holders: an iterator; slices.AppendSeq, slices.Collect, slices.SortedFunc of it. -/
namespace Go.Proofs.YtklfficlegfhjaaGreat
open Go Go.RowKit Go.Shelf Gf Sha
attribute [local go_sem] Oper.semAt_some

theorem At.block {w w' : World} {g o : Nat} {cs : List Value} (h : At w g o cs) (hb : w'.heap[g]? = w.heap[g]?) : At w' g o cs := fun j v hj => (World.cell?_of_block (a := ⟨g, o + j, none⟩) hb).trans (h j v hj)
theorem LS.elem_at {α : Type} {R : Rdg α} {s b n c : Nat} {w : World} {A : Option Addr} {L : List α} (h : LS R s b w A n c L) {k : Nat} (hk : k < n) : ∃ x g o cs, L[k]? = some x ∧ A = some ⟨g, o, none⟩ ∧ At w g (o + k * s) cs ∧ R w cs x := by
 have hl : k < L.length := by rw [h.1]; exact hk
 obtain ⟨g, o, cs, h1, h2, h3⟩ := h.2.2.2 k hl
 exact ⟨_, g, o, cs, List.getElem?_eq_getElem hl, h1, h2, h3⟩
section
set_option maxRecDepth 100000
set_option maxHeartbeats 4000000
theorem values_itr (gb : Nat) (A : Option Addr) (n c : Nat) (hs : List Hd) (W : World) (h : LS rHd 3 24 W A n c hs) (hb : W.cell? ⟨gb, 0, none⟩ = some (.slice A n c)) :
  Itr Fence.wide Tryz.prog 79 #[.pointer (some ⟨gb, 0, none⟩)] (fun i => (∃ o, A = some ⟨i, o, none⟩) ∧ 0 < n) hs (fun x vs G _ => vs = #[.agg (hdL x).toArray] ∧ okHd x ∧ G = fun _ => False) W := by
 intro nn l J Jx hJ hJx hY h0
 have hn := h.len_le
 have H := Lib.hid h
 have HL := Lib.hid h.1
 have HJ := Lib.hid hJ
 have HY := Lib.hid hY
 have H0 := Lib.hid h0
 clear h hJ hY h0
 refine callsIn_of_wp (F := Fence.wide) Tryz.func79 rfl trivial ?_ rfl
 simp only [Tryz.ntmps79, List.size_toArray, List.length_cons, List.length_nil, Nat.reduceAdd, Nat.reduceSub, Array.replicate_succ, Array.replicate_zero, List.push_toArray, List.append_toArray, List.nil_append, List.cons_append]
 gi_wp2
 gi_loopw [7] (fun iv wr => ∃ (k : Nat) (S : Nat → Prop), iv = .int .i64 (k : Int) ∧ k ≤ n ∧ Hid (J k S wr) ∧ Hid (∀ i, S i → W.heap.size ≤ i ∧ i < wr.heap.size) ∧ Hid (W.heap.size ≤ wr.heap.size ∧ ∀ i, ((∃ o, A = some ⟨i, o, none⟩) ∧ 0 < n) → i < W.heap.size → wr.heap[i]? = W.heap[i]?))
  (fun iv _ => n - (intOf iv).toNat)
 case atStart => exact ⟨0, fun _ => False, rfl, by omega, H0, Lib.hid (fun i h => h.elim), Lib.hid ⟨Nat.le_refl _, fun _ _ _ => rfl⟩⟩
 case round =>
  obtain ⟨k, S, rfl, hk, hj, hS, hkp⟩ := hrel
  obtain ⟨wx, hwx⟩ : ∃ x, x = wr := ⟨_, rfl⟩
  rw [← hwx] at hj hS hkp ⊢
  clear hwx
  by_cases hlt : k < n
  ·
   obtain ⟨x, g, o, cs, hs', ea, hat, hr⟩ := H.out.elem_at hlt
   obtain ⟨rfl, hok⟩ := hr
   have HX := Lib.hid hs'
   have hgl : g < W.heap.size := cell_lt (hat 0 _ rfl)
   have HA := Lib.hid (hat.block (hkp.out.2 g ⟨⟨o, ea⟩, by omega⟩ hgl))
   have HOK := Lib.hid hok
   have HNG : Hid (∀ i, (∃ o', A = some ⟨i, o', none⟩) → i = g) := Lib.hid (fun i ⟨o', e⟩ => by rw [ea] at e; cases e; rfl)
   have HGL := Lib.hid hgl
   subst ea
   clear hs' hat hok hgl hb
   gi_wp2_with (first
    | ((with_reducible show wpListIn _ _ _ _ _ (⟨some 10, _, _, _, _, _⟩ :: _) _ _); refine fw_list (by intro c h; cases h) ?_; refine wpList_loadv _ rfl 76 (.tmp 9) rfl 3 (by kernel_rfl) g (o + k * 3) (hdL x) (by go_simp) HA.out rfl ?_; refine fw_back ?_)
    | ((with_reducible show wpListIn _ _ _ _ _ (⟨some 4, _, _, _, _, _⟩ :: _) _ _); refine fw_list (by intro c h; cases h) ?_; refine wpList_alloc _ rfl 76 rfl hdZ hdZero ?_; intro w3 a1 a2 a3; have HV3 := Lib.hid a1; have HX3 := Lib.hid a2; clear a1 a2 a3; refine fw_back ?_)
    | ((with_reducible show wpListIn _ _ _ _ _ (⟨none, _, _, _, _, _⟩ :: _) _ _); refine fw_list (by intro c h; cases h) ?_; refine wpList_storev _ rfl 76 (.tmp 4) (.tmp 10) rfl 3 (by kernel_rfl) wx.heap.size 0 _ hdZ (hdL x) rfl rfl HV3.out rfl (one_hd x) (by decide) ?_; intro w4 a1 a2 a3; have HV4 : Hid (BL w4 wx.heap.size 76 (hdL x)) := Lib.hid a1; have HX4 : Hid (Below wx.heap.size wx w4) := Lib.hid (((Kp.of_below (S := fun _ => False) HX3.out).after a2 (fun i hi e => by omega)).below (Nat.le_refl _) (fun _ h => h.elim)); clear a1 a2 a3; obtain ⟨fn, tmps, assign, body, hy, hR⟩ := HY.out (nn - 1) k x #[.agg (hdL x).toArray] (fun _ => False) S w4 HX.out ⟨rfl, HOK.out, rfl⟩ (fun i h => h.elim) (fun i h => ⟨(hS.out i h).1, Nat.lt_of_lt_of_le (hS.out i h).2 HX4.out.size⟩) (HJ.out _ _ _ _ hj.out (Kp.of_below HX4.out)); have HHR := Lib.hid hR; clear hR; refine fw_back ?_)
    | ((with_reducible show wpListIn _ _ _ _ _ (⟨some 12, _, _, _, _, _⟩ :: _) _ _); refine fw_list (by intro c h; cases h) ?_; refine wpList_loadv _ rfl 76 (.tmp 4) rfl 3 (by kernel_rfl) wx.heap.size 0 (hdL x) rfl (BL.all HV4.out) rfl ?_; refine fw_back ?_))
   refine ⟨fun h => (by cases h), HHR.out.mono ?_⟩
   rintro e W3 (⟨rfl, S', hJ3, hr3⟩ | ⟨rfl, S', hJ3, hr3⟩)
   ·
    have HJ3 := Lib.hid hJ3
    have HR3 := Lib.hid hr3
    clear hJ3 hr3
    gi_wp2
    go_roundw
    case rel =>
     refine ⟨k + 1, S', by go_num, by omega, HJ3, Lib.hid (fun i hi => ?_), Lib.hid ⟨?_, fun i hi hil => ?_⟩⟩
     ·
      have h1 := HR3.out.2 i hi
      refine ⟨?_, h1.1⟩
      rcases h1.2 with h2 | h2 | h2
      ·
       exact (hS.out i h2).1
      ·
       exact h2.elim
      ·
       have := HX4.out.size; have := hkp.out.1; omega
     ·
      have := HR3.out.1.size; have := HX4.out.size; have := hkp.out.1; omega
     ·
      refine (HR3.out.1.block i (by have := HX4.out.size; have := hkp.out.1; omega) ?_).trans ((HX4.out.block i (by have := hkp.out.1; omega)).trans (hkp.out.2 i hi hil))
      rintro (h2 | h2)
      ·
       have := (hS.out i h2).1; omega
      ·
       exact h2.2 hi
    case measure => simp [intOf]; omega
   ·
    have HJ3 := Lib.hid hJ3
    have HR3 := Lib.hid hr3
    clear hJ3 hr3
    gi_wp2
    refine bodyPost_ret (results_none rfl _ _ _) rfl ?_
    refine ⟨⟨_, rfl⟩, .inr ⟨k + 1, S', by rw [HL.out]; omega, HJ3.out, fun i hi => ?_⟩⟩
    have h1 := HR3.out.2 i hi
    refine ⟨?_, h1.1⟩
    rcases h1.2 with h2 | h2 | h2
    ·
     exact (hS.out i h2).1
    ·
     exact h2.elim
    ·
     have := HX4.out.size; have := hkp.out.1; omega
  ·
   obtain rfl : k = n := by omega
   gi_wp2
   go_end0
   exact ⟨⟨_, rfl⟩, .inl ⟨S, by rw [← HL.out] at hj; exact hj.out, hS.out⟩⟩
theorem zip1 (t : Array Value) (p : Tmp) (u : Value) : ((#[p] : Array Tmp).zip #[u]).foldl (fun t (p, v) => t.setIfInBounds p v) t = t.setIfInBounds p u := by simp [Array.zip]
theorem bslHd (x : Hd) (w : World) : (Instr.buildSlice 23 1 #[(0, .agg (hdL x).toArray)]).run Tryz.prog w = .ok (.slice (some ⟨w.heap.size, 0, none⟩) 1 1) (w.alloc (.cells (hdL x).toArray 76)) := by kernel_rfl
theorem appseq_any (gb : Nat) (A : Option Addr) (n c : Nat) (hs : List Hd) (w : World) (h : LS rHd 3 24 w A n c hs) (hb : w.cell? ⟨gb, 0, none⟩ = some (.slice A n c)) (hn : n ≤ 1000) :
  Calls Tryz.prog 86 #[.slice none 0 0, .func (.func 79) #[] #[.pointer (some ⟨gb, 0, none⟩)]] w fun e w' =>
   ∃ v, e = .returned v ∧ RW w' 76 3 v n (hs.flatMap hdL) ∧ (∀ b, v.ownBlock = some b → w.heap.size ≤ b) ∧ Below w.heap.size w w' := by
 have H := Lib.hid h
 have HL := Lib.hid h.1
 have HB := Lib.hid hb
 have HN := Lib.hid hn
 have HNEED : Hid (∀ i, ((∃ o, A = some ⟨i, o, none⟩) ∧ 0 < n) → i < w.heap.size) := Lib.hid (fun i hi => by
  obtain ⟨⟨o, e⟩, hpos⟩ := hi
  obtain ⟨x, g, o', cs, _, ea, hat, hr⟩ := H.out.elem_at hpos
  rw [e] at ea
  cases ea
  obtain ⟨rfl, _⟩ := hr
  exact cell_lt (hat 0 _ rfl))
 clear h hb hn
 refine calls_fw (ro := none) (n := 3) ?_
 refine callsIn_of_wp_marks Tryz.func86 rfl trivial ?_ rfl
 simp only [Tryz.ntmps86, List.size_toArray, List.length_cons, List.length_nil, Nat.reduceAdd, Nat.reduceSub, Array.replicate_succ, Array.replicate_zero, List.push_toArray, List.append_toArray, List.nil_append, List.cons_append]
 gi_wp2_with (first
  | ((with_reducible show wpListIn _ _ _ _ _ (⟨some 2, _, _, _, _, _⟩ :: _) _ _); refine fw_list (by intro c h; cases h) ?_; refine wpList_box1 _ rfl 23 (.tmp 0) rfl _ rfl rfl ?_; intro w0 a1 a2 a3; have HV0 := Lib.hid a1; have HB0 := Lib.hid a2; clear a1 a2 a3; refine fw_back ?_))
 refine wp_range rfl rfl (gf := 79) (lb := #[.pointer (some ⟨gb, 0, none⟩)]) rfl trivial (enters_of Tryz.func79 (by kernel_rfl) rfl)
  (fun W1 hb1 => values_itr gb A n c hs W1 ((H.out.kept stay_hd HB0.out).kept stay_hd hb1) (cell_kept hb1 (cell_kept HB0.out HB.out)))
  (fun i hi => ?need) (fun x vs G A' he => by rw [he.1]; rfl)
  (fun k S W => ∃ v, BL W w.heap.size 23 [v] ∧ RW W 76 3 v k ((hs.take k).flatMap hdL) ∧ (∀ b, v.ownBlock = some b → S b ∧ w.heap.size ≤ b) ∧ Below w.heap.size w W) (fun _ _ _ _ => False) ?hI (fun _ _ _ _ _ h _ => h.elim)
  ⟨_, HV0.out, RW.nil _ _ _, (fun b hb => by cases hb), HB0.out⟩ ?round ?done (fun D cc k S W hD hS hk hx hw => hx.elim)
 case need => exact Nat.lt_of_lt_of_le (HNEED.out i hi) HB0.out.size
 case hI =>
  rintro k S X Y ⟨v, h1, h2, h3, h4⟩ hk
  have hlt := HV0.out.lt
  refine ⟨v, hk.bl h1 (fun h => by omega), h2.kp hk (fun b hb h => h.2 (h3 b hb).1), h3, ?_⟩
  exact ((Kp.of_below (S := fun i => w.heap.size ≤ i) (show Below w.heap.size w X from h4)).trans (hk.mono (fun i _ h => by have := HB0.out.size; omega))).below (Nat.le_refl _) (fun i h => h)
 case round =>
  rintro l m k x vs G S W hx ⟨rfl, hok, rfl⟩ hG hS ⟨v, h1, h2, h3, h4⟩ hl
  simp only [zip1, List.setIfInBounds_toArray, List.set_cons_succ, List.set_cons_zero]
  have H1 := Lib.hid h1
  have H2 := Lib.hid h2
  have H3 := Lib.hid h3
  have H4 := Lib.hid h4
  have HX := Lib.hid hx
  have HOK := Lib.hid hok
  have HS := Lib.hid hS
  have HLL := Lib.hid hl
  have HZ := Lib.hid HV0.out.lt
  clear h1 h2 h3 h4 hx hok hS hl hG
  gi_wp2_with (first
   | ((with_reducible show wpListIn _ _ _ _ _ (⟨some 5, _, _, _, _, _⟩ :: _) _ _); refine fw_list (by intro c h; cases h) ?_; refine wpList_alloc _ rfl 76 rfl hdZ hdZero ?_; intro w3 a1 a2 a3; have HV3 := Lib.hid a1; have HX3 := Lib.hid a2; clear a1 a2 a3; refine fw_back ?_)
   | ((with_reducible show wpListIn _ _ _ _ _ (⟨none, _, _, _, _, _⟩ :: _) _ _); refine fw_list (by intro c h; cases h) ?_; refine wpList_storev _ rfl 76 (.tmp 5) (.tmp 7) rfl 3 (by kernel_rfl) W.heap.size 0 _ hdZ (hdL x) rfl rfl HV3.out rfl (one_hd x) (by decide) ?_; intro w4 a1 a2 a3; have HV4 : Hid (BL w4 W.heap.size 76 (hdL x)) := Lib.hid a1; have HX4 : Hid (Below W.heap.size W w4) := Lib.hid (((Kp.of_below (S := fun _ => False) HX3.out).after a2 (fun i hi e => by omega)).below (Nat.le_refl _) (fun _ h => h.elim)); clear a1 a2 a3; refine fw_back ?_))
  refine ⟨Kp.of_below HX4.out, fun w5 hk5 hz5 => ?_⟩
  have hkn : k < n := by have := (List.getElem?_eq_some_iff.1 HX.out).1; have := HL.out; omega
  have HKN := Lib.hid hkn
  have HV5 : Hid (BL w5 W.heap.size 76 (hdL x)) := Lib.hid (hk5.bl HV4.out (fun e => by have := HLL.out.2.1; omega))
  have HBX : Hid (BL w5 w.heap.size 23 [v]) := Lib.hid (hk5.bl (H1.out.kept HX4.out) (fun e => by have := HLL.out.1; have := HZ.out; omega))
  have HR5 : Hid (RW w5 76 3 v k ((hs.take k).flatMap hdL)) := Lib.hid ((H2.out.kept HX4.out).kp hk5 (fun b hb e => HLL.out.2.2.1 (e ▸ (H3.out b hb).1)))
  have HB5 : Hid (Below w.heap.size w w5) := Lib.hid (((Kp.of_below (S := fun i => w.heap.size ≤ i) (H4.out.trans (HX4.out.mono H4.out.size))).trans (hk5.mono (fun i _ e => by have := HLL.out.1; have := HB0.out.size; omega))).below (Nat.le_refl _) (fun i h => h))
  have HZ5 : Hid (W.heap.size < w5.heap.size) := Lib.hid HV5.out.lt
  have c5 := HBX.out.get (j := 0) rfl
  have HSX := Lib.hid hkn
  clear hk5 hz5 hkn
  gi_wp2_with (first
   | ((with_reducible show wpListIn _ _ _ _ _ (⟨some 9, _, _, _, _, _⟩ :: _) _ _); refine fw_list (by intro c h; cases h) ?_; refine wpList_loadv _ rfl 76 (.tmp 5) rfl 3 (by kernel_rfl) W.heap.size 0 (hdL x) rfl (BL.all HV5.out) rfl ?_; refine fw_back ?_)
   | ((with_reducible show wpListIn _ _ _ _ _ (⟨some 10, _, _, _, _, _⟩ :: _) _ _); refine fw_list (by intro c h; cases h) ?_; refine wpList_bslice _ rfl 23 76 1 _ rfl #[(0, .agg (hdL x).toArray)] (by rw [List.map_toArray]; rfl) (hdL x) (bslHd x _) ?_; intro w6 a1 a2 a3; have HG6 := Lib.hid a1; have HX6 := Lib.hid a2; clear a1 a2 a3; refine fw_back ?_)
   | ((with_reducible show wpListIn _ _ _ _ _ (⟨some 11, _, _, _, _, _⟩ :: _) _ _); refine fw_list (by intro c h; cases h) ?_; obtain ⟨iS, i1, i2, i3, i4⟩ := info_some infoHd; refine wpList_appRW _ rfl (.tmp 8) (.tmp 10) 23 76 3 iS _ rfl Tryz.underlying23 i1 i2 i3 rfl _ k _ rfl (HR5.out.kept HX6.out) w5.heap.size _ rfl HG6.out rfl (one_hd x) (by rw [i4]; have := HN.out; have := HKN.out; omega) (by have := HN.out; have := HKN.out; omega) ?_; intro v' w7 a1; have HR7 := Lib.hid a1; have HBX7 : Hid (BL w7 w.heap.size 23 [v]) := Lib.hid (a1.bl (HR5.out.kept HX6.out) (HBX.out.kept HX6.out) (by decide)); clear a1 i1 i2 i3 i4; refine fw_back ?_)
   | ((with_reducible show wpListIn _ _ _ _ _ (⟨none, _, _, _, _, _⟩ :: _) _ _); refine fw_list (by intro c h; cases h) ?_; refine wpList_store1 _ rfl 23 (.tmp 2) (.tmp 11) rfl (sz1 _ (by kernel_rfl) _) w.heap.size 0 _ _ v' rfl rfl HBX7.out (by obtain ⟨A', c', e, _⟩ := HR7.out.row.form; rw [e]; rfl) (by obtain ⟨A', c', e, _⟩ := HR7.out.row.form; rw [e]; rfl) (by simp) ?_; intro w8 a1 a2 a3; have HBX8 := Lib.hid a1; have HK8 := Lib.hid a2; clear a1 a2 a3; refine fw_back ?_))
  have hne : ∀ b, v'.ownBlock = some b → b ≠ w.heap.size := fun b hb => HR7.out.row.ne_bl HBX7.out (by decide) b hb
  refine ⟨fun i => v'.ownBlock = some i, ⟨v', HBX8.out, ?_, fun b hb => ⟨hb, ?_⟩, ?_⟩, ⟨?_, fun i hi => ⟨?_, ?_⟩⟩⟩
  ·
   have h9 := HR7.out.row.kp HK8.out (fun b hb e => hne b hb e)
   rw [take_next HX.out, List.flatMap_append]
   simpa using h9
  ·
   rcases HR7.out.own b hb with h9 | h9
   ·
    exact (H3.out b h9).2
   ·
    have := HX6.out.size; have := HB5.out.size; omega
  ·
   have h9 : Kp (fun i => w.heap.size ≤ i) w w8 := (((Kp.of_below HB5.out).trans (Kp.of_below HX6.out)).trans (HR7.out.kp.mono (fun i _ e => (H3.out i e).2))).trans (HK8.out.mono (fun i _ e => by show w.heap.size ≤ i; omega))
   exact h9.below (Nat.le_refl _) (fun i h => h)
  ·
   refine ((Kp.of_below HX6.out).trans (HR7.out.kp.mono (fun i _ e => .inl (H3.out i e).1))).trans (HK8.out.mono (fun i _ e => .inr ⟨by have := HZ.out; omega, fun hn => by have := HNEED.out i hn; omega⟩))
  ·
   have := HR7.out.row.lt hi; have := HK8.out.size; omega
  ·
   rcases HR7.out.own i hi with h9 | h9
   ·
    exact .inl (H3.out i h9).1
   ·
    exact .inr (.inr (by have := HX6.out.size; have := HZ5.out; omega))
 case done =>
  rintro D S W hD hS ⟨v, h1, h2, h3, h4⟩ hK
  have H1 := Lib.hid h1
  have H2 := Lib.hid h2
  have H3 := Lib.hid h3
  have H4 := Lib.hid h4
  have c0 := h1.get (j := 0) rfl
  have HD := Lib.hid hD
  have HS := Lib.hid hS
  have HK := Lib.hid hK
  clear h1 h2 h3 h4 hD hS hK
  gi_wp2
  refine ⟨by simp, .inl ⟨_, _, rfl, run_takeDeferred HK.out, ?_⟩⟩
  refine ⟨_, results_tmp rfl _ _ _, v, rfl, ?_, fun b hb => (H3.out b hb).2, ?_⟩
  ·
   rw [show hs.length = n from HL.out, ← HL.out, List.take_length] at H2
   rw [← HL.out]
   exact H2.out.kp ((Kp.refl (fun i => i = D) W).put (.inl rfl) _) (fun b hb e => by
    have := HS.out b (H3.out b hb).1; omega)
  ·
   exact ((Kp.of_below (S := fun i => w.heap.size ≤ i) H4.out).put (.inl (by have := HD.out; have := HB0.out.size; omega)) _).below (Nat.le_refl _) (fun i h => h)
end
end Go.Proofs.YtklfficlegfhjaaGreat
