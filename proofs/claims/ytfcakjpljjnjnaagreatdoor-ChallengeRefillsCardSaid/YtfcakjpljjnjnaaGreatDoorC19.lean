/- Several texts in one: Pu6. -/
import Derived.Test.YtfcakjpljjnjnaaGreatDoorC18
/- Sets of strings in memory; lists of tokens of one piece; what Add makes of a purse. -/
namespace Go.Proofs.YtfcakjpljjnjnaaGreatDoor
open Go Go.RowKit Gf

theorem keyStr (x : List UInt8) (hx : x.length ≤ 9223372036854775807) : ∃ lx, keyOf Tryz.prog 9 (usC x) = some lx := by
 have hm : (strB x).size ≤ maxLen := by rw [strB_size]; exact hx
 unfold keyOf
 rw [Tryz.underlying9]
 simp [mapKey, usC, Tryz.underlying9, hm]
/-- Block ib is a map[string]bool of just these strings. -/
def SetB (w : World) (ib : Nat) (kn : List (List UInt8)) : Prop := ∃ L, MB Tryz.prog 9 w ib L ∧ (∀ p ∈ L, p.2 = .bool true) ∧ ∀ x, (∃ p ∈ L, p.1 = usC x) ↔ x ∈ kn
section
variable {w w' : World} {ib : Nat} {kn : List (List UInt8)}
theorem SetB.kp {S : Nat → Prop} (h : SetB w ib kn) (hk : Kp S w w') (hn : ¬ S ib) : SetB w' ib kn := by
 obtain ⟨L, h1, h2⟩ := h
 exact ⟨L, h1.kp hk hn, h2⟩
theorem SetB.kept (h : SetB w ib kn) (hb : Below w.heap.size w w') : SetB w' ib kn := by
 obtain ⟨L, h1, h2⟩ := h
 exact ⟨L, h1.kept hb, h2⟩
theorem SetB.lt (h : SetB w ib kn) : ib < w.heap.size := by
 obtain ⟨L, h1, h2⟩ := h
 exact h1.lt
theorem SetB.new (h : MB Tryz.prog 9 w ib []) : SetB w ib [] := ⟨[], h, by simp, by simp⟩
end
theorem usC_inj {x y : List UInt8} (h : usC x = usC y) : x = y := by
 unfold usC at h
 injection h with h
 exact strB_inj h
theorem set_found {L : List (Value × Value)} {kn : List (List UInt8)} {x : List UInt8} {v : Value} {f : Bool} (h1 : ∀ p ∈ L, p.2 = .bool true) (h2 : ∀ x, (∃ p ∈ L, p.1 = usC x) ↔ x ∈ kn) (h : Found L (usC x) (.bool false) v f) : v = .bool (kn.contains x) := by
 cases h with
 | yes i v h =>
  have hm := List.mem_of_getElem? h
  have e := h1 _ hm
  have hx := (h2 x).1 ⟨_, hm, rfl⟩
  simp only at e
  rw [e, List.contains_iff_mem.2 hx]
 | no h =>
  have hx : ¬ x ∈ kn := fun hx => by
   obtain ⟨p, hp, e⟩ := (h2 x).2 hx
   exact h p hp e
  have : kn.contains x = false := by
   rw [Bool.eq_false_iff]
   intro e
   exact hx (List.contains_iff_mem.1 e)
  rw [this]
theorem set_stored {L L' : List (Value × Value)} {kn : List (List UInt8)} {x : List UInt8} (h1 : ∀ p ∈ L, p.2 = .bool true) (h2 : ∀ x, (∃ p ∈ L, p.1 = usC x) ↔ x ∈ kn) (h : Stored L (usC x) (.bool true) L') : (∀ p ∈ L', p.2 = .bool true) ∧ ∀ y, (∃ p ∈ L', p.1 = usC y) ↔ y ∈ kn ++ [x] := by
 cases h with
 | old i u h =>
  obtain ⟨hi, hu⟩ := List.getElem?_eq_some_iff.1 h
  have e : u = .bool true := by have := h1 _ (List.mem_of_getElem? h); exact this
  subst e
  have e2 : L.set i (usC x, .bool true) = L := by rw [← hu]; exact List.set_getElem_self hi
  rw [e2]
  refine ⟨h1, fun y => ?_⟩
  rw [h2, List.mem_append, List.mem_singleton]
  constructor
  ·
   exact .inl
  ·
   rintro (h | rfl)
   ·
    exact h
   ·
    exact (h2 _).1 ⟨_, List.mem_of_getElem? h, rfl⟩
 | new h =>
  refine ⟨fun p hp => ?_, fun y => ?_⟩
  ·
   rcases List.mem_append.1 hp with hp | hp
   ·
    exact h1 p hp
   ·
    rw [List.mem_singleton.1 hp]
  ·
   rw [List.mem_append, List.mem_singleton, ← h2]
   constructor
   ·
    rintro ⟨p, hp, e⟩
    rcases List.mem_append.1 hp with hp | hp
    ·
     exact .inl ⟨p, hp, e⟩
    ·
     rw [List.mem_singleton.1 hp] at e
     exact .inr (usC_inj e).symm
   ·
    rintro (⟨p, hp, e⟩ | rfl)
    ·
     exact ⟨p, List.mem_append_left _ hp, e⟩
    ·
     exact ⟨_, List.mem_append_right _ (List.mem_singleton_self _), rfl⟩

/-- A slice of tokens of one piece. -/
def TkP (w : World) (A : Option Addr) (n c : Nat) (s : List UInt8) (i : Int) (xs : List Sc) : Prop :=
 xs.length = n ∧ n ≤ c ∧ n ≤ 100000 ∧ ∀ k, (h : k < xs.length) → ∃ g o, A = some ⟨g, o, none⟩ ∧ At w g (o + k * 4) (tokC s i xs[k])
theorem TkP.kept {w w' : World} {A : Option Addr} {n c : Nat} {s : List UInt8} {i : Int} {xs : List Sc} (h : TkP w A n c s i xs) (hb : Below w.heap.size w w') : TkP w' A n c s i xs :=
 ⟨h.1, h.2.1, h.2.2.1, fun k hk => let ⟨g, o, e, hc⟩ := h.2.2.2 k hk; ⟨g, o, e, hc.kept hb⟩⟩
/-- Are the tokens valid? -/
def tokB (s : List UInt8) (i : Int) (xs : List Sc) : Bool := idB s i && xs.all fun x => decide (x.1.length = 32) && decide (x.2.length = 32)
/-- Are the nonces new, one after the other? -/
def addB : List (List UInt8) → List Sc → Bool
 | _, [] => true
 | kn, x :: xs => !kn.contains x.1 && addB (kn ++ [x.1]) xs
theorem addB_no {kn : List (List UInt8)} {xs : List Sc} {k : Nat} (hk : k < xs.length) (h : (kn ++ (xs.take k).map (·.1)).contains xs[k].1 = true) : addB kn xs = false := by
 induction xs generalizing kn k with
 | nil => simp at hk
 | cons x xs ih =>
  cases k with
  | zero => simp at h; simp [addB, h]
  | succ k =>
   simp only [List.take_succ_cons, List.map_cons, List.getElem_cons_succ] at h
   have := ih (kn := kn ++ [x.1]) (k := k) (by simpa using hk) (by simpa using h)
   simp [addB, this]
theorem addB_yes {kn : List (List UInt8)} {xs : List Sc} (h : ∀ k, (hk : k < xs.length) → (kn ++ (xs.take k).map (·.1)).contains xs[k].1 = false) : addB kn xs = true := by
 induction xs generalizing kn with
 | nil => rfl
 | cons x xs ih =>
  have h0 := h 0 (by simp)
  have := ih (kn := kn ++ [x.1]) (fun k hk => by
   have := h (k + 1) (by simpa using hk)
   simpa using this)
  simp only [addB, this, Bool.and_true]
  simpa using h0
end Go.Proofs.YtfcakjpljjnjnaaGreatDoor
