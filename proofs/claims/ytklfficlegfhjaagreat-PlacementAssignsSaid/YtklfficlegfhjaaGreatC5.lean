/- Several texts in one: Qa, Qb, Qc, Qd, Qe, Qf, Qg, Qh, Qi, Ka. -/
import Derived.Test.YtklfficlegfhjaaGreatC1
/- Placement plainly: wants, holders, places, and what the functions of the chapter say of them. -/
namespace Go.Proofs.YtklfficlegfhjaaGreat
open Go

/-- A stripe whose pieces are to be placed. -/
structure Wt where
 st : List UInt8
 sz : Int
 da : Int
 to : Int
/-- A device that may hold pieces. -/
structure Hd where
 dv : Int
 qt : Int
 wt : Int
/-- A device holds a piece. -/
structure Pl where
 st : List UInt8
 ix : Int
 dv : Int
instance : DecidableEq Pl := fun a b => decidable_of_iff (a.st = b.st ∧ a.ix = b.ix ∧ a.dv = b.dv) ⟨fun h => by
 cases a; cases b; obtain ⟨h1, h2, h3⟩ := h; subst h1; subst h2; subst h3; rfl, fun h => by subst h; exact ⟨rfl, rfl, rfl⟩⟩

/-- The want of a stripe; its number, or -1. -/
def wat (ws : List Wt) (s : List UInt8) : Option Wt := ws.find? (fun w => decide (w.st = s))
def fdI (ws : List Wt) (s : List UInt8) : Int := match ws.findIdx? (fun w => decide (w.st = s)) with
 | some i => (i : Int)
 | none => -1
def wtB (w : Wt) : Bool := decide (1 ≤ w.sz ∧ w.sz ≤ 65536 ∧ 1 ≤ w.da ∧ w.da ≤ 8 ∧ w.da ≤ w.to ∧ w.to ≤ 16)
def wantsB (ws : List Wt) : Bool := decide (ws.length ≤ 8) && ws.all wtB && decide ((ws.map Wt.st).Nodup)
def hdB (h : Hd) : Bool := decide (0 ≤ h.dv ∧ h.dv < 12 ∧ 0 ≤ h.qt ∧ h.qt ≤ 1099511627776 ∧ 0 ≤ h.wt ∧ h.wt ≤ 1099511627776)
def holdersB (hs : List Hd) : Bool := decide (hs.length ≤ 12) && hs.all hdB && decide ((hs.map Hd.dv).Nodup)
def nameB (ws : List Wt) (p : Pl) : Bool := match wat ws p.st with
 | some w => decide (0 ≤ p.ix ∧ p.ix < w.to)
 | none => false
def namedB (ws : List Wt) (ps : List Pl) : Bool := ps.all (nameB ws)
def szOf (ws : List Wt) (s : List UInt8) : Int := match wat ws s with
 | some w => w.sz
 | none => 0
def usedI (ws : List Wt) (ps : List Pl) (d : Int) : Int := ps.foldl (fun a p => if p.dv = d then a + szOf ws p.st else a) 0
/-- Two places clash: one piece twice, or two pieces of a stripe on a device. -/
def clash (a b : Pl) : Bool := decide (a.st = b.st ∧ (a.ix = b.ix ∨ a.dv = b.dv))
def clashB : List Pl → Bool
 | [] => false
 | p :: ps => ps.any (clash p) || clashB ps
def devB (hs : List Hd) (d : Int) : Bool := hs.any (fun h => decide (h.dv = d))
def checkE (ws : List Wt) (hs : List Hd) (ps : List Pl) : Int :=
 if !(wantsB ws && holdersB hs && namedB ws ps) then 1
 else if !(ps.all (fun p => devB hs p.dv)) then 1
 else if clashB ps then 5
 else if hs.any (fun h => decide (h.qt < usedI ws ps h.dv)) then 7
 else 0
/-- The pieces of a stripe that have a place. -/
def spreadL (s : List UInt8) (ps : List Pl) : List Int := ps.foldl (fun a p => if p.st = s ∧ p.ix ∉ a then a ++ [p.ix] else a) []
def spreadI (s : List UInt8) (ps : List Pl) : Int := ((spreadL s ps).length : Int)
/-- a is preferred to b. -/
def pref (a b : Hd) : Bool := decide (b.wt < a.wt ∨ a.wt = b.wt ∧ a.dv < b.dv)
def insH (h : Hd) : List Hd → List Hd
 | [] => [h]
 | x :: xs => if pref h x then h :: x :: xs else x :: insH h xs
def prefL (hs : List Hd) : List Hd := hs.foldl (fun out h => insH h out) []
def hasAt (ps : List Pl) (s : List UInt8) (d : Int) : Bool := ps.any (fun p => decide (p.st = s ∧ p.dv = d))
def hasIx (ps : List Pl) (s : List UInt8) (i : Int) : Bool := ps.any (fun p => decide (p.st = s ∧ p.ix = i))
def upI (n : Int) : List Int := (List.range n.toNat).map (fun k : Nat => (k : Int))
def withoutL (w : Wt) (ps : List Pl) : List Int := (upI w.to).filter (fun i => !hasIx ps w.st i)
def freeL (ws : List Wt) (hs : List Hd) (ps : List Pl) (w : Wt) : List Int :=
 ((prefL hs).filter (fun h => decide (usedI ws ps h.dv + w.sz ≤ h.qt) && !hasAt ps w.st h.dv)).map Hd.dv
def addL (w : Wt) (ps : List Pl) (ds : List Int) : List Pl := ps ++ ((withoutL w ps).zip ds).map (fun x => ⟨w.st, x.1, x.2⟩)
/-- The lists of n out of a list, in order. -/
def combos {α : Type} : List α → Nat → List (List α)
 | _, 0 => [[]]
 | [], _ + 1 => []
 | x :: xs, n + 1 => (combos xs n).map (x :: ·) ++ combos xs (n + 1)
def sortedL (ws : List Wt) (ps : List Pl) : List Pl := ws.flatMap (fun w => (upI w.to).flatMap (fun i => ps.filter (fun p => decide (p.st = w.st ∧ p.ix = i))))
def insI (x : Int) : List Int → List Int
 | [] => [x]
 | y :: ys => if x < y then x :: y :: ys else y :: insI x ys
def surplL (ws : List Wt) (ps : List Pl) : List Int := ws.foldl (fun out w => insI (spreadI w.st ps - w.da) out) []
def greaterB : List Int → List Int → Bool
 | a :: l, b :: k => if a = b then greaterB l k else decide (b < a)
 | _, _ => false

/-- The reference's search: how many states, whether found, the best. ex: holders beyond Data, none: any number. -/
structure RS where
 n : Nat
 fnd : Bool
 best : List Pl
def RS.stop (first : Bool) (budget : Nat) (s : RS) : Bool := decide (budget < s.n) || (first && s.fnd)
/-- The numbers k to 0, k to e, by one down. -/
def downN (e : Nat) : Nat → List Nat
 | 0 => if e = 0 then [0] else []
 | k + 1 => if e ≤ k + 1 then (k + 1) :: downN e k else []
def rchoices (ws : List Wt) (hs : List Hd) (ps : List Pl) (ex : Option Int) (w : Wt) : List (List Int) :=
 let free := freeL ws hs ps w
 match ex with
 | some x => if w.to < w.da + x then [] else combos free (w.da + x).toNat
 | none => (downN 0 (min free.length (withoutL w ps).length)).flatMap (combos free)
def rgo (first : Bool) (budget : Nat) (f : List Int → RS → RS) : List (List Int) → RS → RS
 | [], s => s
 | c :: cs, s => if s.stop first budget then s else rgo first budget f cs (f c s)
def rlook (ws : List Wt) (hs : List Hd) (ex : Option Int) (first : Bool) (budget : Nat) : List Wt → List Pl → RS → RS
 | r, ps, s =>
  let s1 : RS := { s with n := s.n + 1 }
  if s1.stop first budget then s1
  else match r with
   | [] => if !s1.fnd || (!first && greaterB (surplL ws ps) (surplL ws s1.best)) then { s1 with fnd := true, best := ps } else s1
   | w :: r' => rgo first budget (fun c s => rlook ws hs ex first budget r' (addL w ps c) s) (rchoices ws hs ps ex w) s1
def possR (ws : List Wt) (hs : List Hd) (x : Int) (budget : Nat) : Bool × Int :=
 let s := rlook ws hs (some x) true budget ws [] ⟨0, false, []⟩
 if budget < s.n then (false, 11) else (s.fnd, 0)
def assignR (ws : List Wt) (hs : List Hd) (ps : List Pl) (budget : Nat) : List Pl × Int :=
 let s := rlook ws hs none false budget ws ps ⟨0, false, []⟩
 if budget < s.n then ([], 11) else (sortedL ws s.best, 0)
end Go.Proofs.YtklfficlegfhjaaGreat
/- The program's search plainly; it finds what the reference's finds. -/
namespace Go.Proofs.YtklfficlegfhjaaGreat
open Go

def hAt (hs : List Hd) (j : Int) : Hd := hs.getD j.toNat ⟨0, 0, 0⟩
def zAt (l : List Int) (j : Int) : Int := l.getD j.toNat 0
/-- The holders (numbers in the order of preference) that are free for a want. -/
def freeP (hs : List Hd) (ps : List Pl) (left : List Int) (w : Wt) : List Int :=
 (upI (hs.length : Int)).filter (fun j => !hasAt ps w.st (hAt hs j).dv && decide (w.sz ≤ zAt left j))
def sizesP (ps : List Pl) (ex : Option Int) (w : Wt) (free : Int) : Int × Int := match ex with
 | some x => if w.to < w.da + x then (0, -1) else (w.da + x, w.da + x)
 | none => (0, min free ((withoutL w ps).length : Int))
/-- All lists of between least and most of them, the longest first. -/
def choL (l : List Int) (z : Int × Int) : List (List Int) := if z.2 < 0 then [] else (downN z.1.toNat z.2.toNat).flatMap (combos l)
def choP (hs : List Hd) (ps : List Pl) (ex : Option Int) (left : List Int) (w : Wt) : List (List Int) :=
 choL (freeP hs ps left w) (sizesP ps ex w ((freeP hs ps left w).length : Int))
def takeL (left : List Int) (c : List Int) (z : Int) : List Int := c.foldl (fun l j => l.set j.toNat (zAt l j - z)) left
structure PS (σ : Type) where
 n : Nat
 wi : Bool
 x : σ
def pgo {σ : Type} (f : List Int → PS σ → Bool × PS σ) : List (List Int) → PS σ → Bool × PS σ
 | [], s => (true, s)
 | c :: cs, s => if (f c s).1 then pgo f cs (f c s).2 else (false, (f c s).2)
def plook {σ : Type} (ch : List Int → Wt → List (List Int)) (fd : List (List Int) → σ → Bool × σ) (budget : Nat) : List Wt → List (List Int) → List Int → PS σ → Bool × PS σ
 | r, cs, left, s =>
  if budget < s.n + 1 then (false, ⟨s.n + 1, false, s.x⟩)
  else match r with
   | [] => ((fd cs s.x).1, ⟨s.n + 1, s.wi, (fd cs s.x).2⟩)
   | w :: r' => pgo (fun c s => plook ch fd budget r' (cs ++ [c]) (takeL left c w.sz) s) (ch left w) ⟨s.n + 1, s.wi, s.x⟩
/-- The surpluses behind choices. -/
def surpP (ps : List Pl) (wc : List (Wt × List Int)) : List Int := wc.foldl (fun out x => insI (x.1.to - ((withoutL x.1 ps).length : Int) + (x.2.length : Int) - x.1.da) out) []
def fdP (_ : List (List Int)) (_ : Bool) : Bool × Bool := (false, true)
def fdA (ws : List Wt) (ps : List Pl) (cs : List (List Int)) (b : Option (List (List Int))) : Bool × Option (List (List Int)) :=
 match b with
 | none => (true, some cs)
 | some b => (true, if greaterB (surpP ps (ws.zip cs)) (surpP ps (ws.zip b)) then some cs else some b)
/-- The places behind choices, as the reference adds them. -/
def plcs (hs : List Hd) (ps : List Pl) (wc : List (Wt × List Int)) : List Pl := wc.foldl (fun P x => addL x.1 P (x.2.map (fun j => (hAt hs j).dv))) ps

/-! ### small facts -/
theorem upI_mem {n i : Int} : i ∈ upI n ↔ 0 ≤ i ∧ i < n := by
 unfold upI
 rw [List.mem_map]
 constructor
 ·
  rintro ⟨k, hk, rfl⟩
  rw [List.mem_range] at hk
  omega
 ·
  rintro ⟨h1, h2⟩
  exact ⟨i.toNat, by rw [List.mem_range]; omega, by omega⟩
theorem upI_pw (n : Int) : (upI n).Pairwise (· < ·) := by
 unfold upI
 rw [List.pairwise_map]
 exact (List.pairwise_lt_range (n := n.toNat)).imp (fun h => by omega)
theorem upI_length (n : Int) : (upI n).length = n.toNat := by simp [upI]
theorem combos_sub {α : Type} : ∀ (l : List α) (n : Nat) (c : List α), c ∈ combos l n → c.Sublist l ∧ c.length = n
 | l, 0, c, h => by
  have : c = [] := by cases l <;> simpa [combos] using h
  subst this; exact ⟨List.nil_sublist l, rfl⟩
 | [], n + 1, c, h => by simp [combos] at h
 | x :: xs, n + 1, c, h => by
  simp only [combos, List.mem_append, List.mem_map] at h
  rcases h with ⟨d, hd, rfl⟩ | h
  ·
   obtain ⟨h1, h2⟩ := combos_sub xs n d hd
   exact ⟨h1.cons_cons x, by simp [h2]⟩
  ·
   obtain ⟨h1, h2⟩ := combos_sub xs (n + 1) c h
   exact ⟨h1.cons x, h2⟩
theorem combos_map {α β : Type} (f : α → β) : ∀ (l : List α) (n : Nat), combos (l.map f) n = (combos l n).map (List.map f)
 | l, 0 => by cases l <;> simp [combos]
 | [], n + 1 => by simp [combos]
 | x :: xs, n + 1 => by
  simp only [List.map_cons, combos, combos_map f xs n, combos_map f xs (n + 1), List.map_append, List.map_map]
  congr 1
theorem downN_bounds {e : Nat} : ∀ {k m : Nat}, m ∈ downN e k → e ≤ m ∧ m ≤ k
 | 0, m, h => by
  unfold downN at h
  split at h
  ·
   simp at h; omega
  ·
   cases h
 | k + 1, m, h => by
  unfold downN at h
  split at h
  ·
   rcases List.mem_cons.1 h with rfl | h
   ·
    omega
   ·
    have := downN_bounds h; omega
  ·
   cases h
theorem downN_self : ∀ k : Nat, downN k k = [k]
 | 0 => rfl
 | k + 1 => by
  rw [downN, if_pos (Nat.le_refl _)]
  have : downN (k + 1) k = [] := by
   cases k with
   | zero => rfl
   | succ k => rw [downN, if_neg (by omega)]
  rw [this]
/-- What is chosen: out of the free ones, ascending, not more than there are pieces without a place (any number) or so many. -/
def exOk (ps : List Pl) (w : Wt) (c : List Int) : Option Int → Prop
 | some x => c.length = (w.da + x).toNat ∧ w.da + x ≤ w.to
 | none => c.length ≤ (withoutL w ps).length
theorem cho_mem {hs : List Hd} {ps : List Pl} {ex : Option Int} {left : List Int} {w : Wt} {c : List Int} (h : c ∈ choP hs ps ex left w) :
  c.Sublist (freeP hs ps left w) ∧ exOk ps w c ex := by
 unfold choP at h
 cases ex with
 | some x =>
  by_cases hn : w.to < w.da + x
  ·
   rw [show sizesP ps (some x) w ((freeP hs ps left w).length : Int) = (0, -1) from if_pos hn] at h
   simp [choL] at h
  ·
   rw [show sizesP ps (some x) w ((freeP hs ps left w).length : Int) = (w.da + x, w.da + x) from if_neg hn] at h
   by_cases hz : w.da + x < 0
   ·
    simp [choL, hz] at h
   ·
    simp only [choL, hz, if_false, downN_self, List.flatMap_cons, List.flatMap_nil, List.append_nil] at h
    obtain ⟨h1, h2⟩ := combos_sub _ _ _ h
    exact ⟨h1, h2, by omega⟩
 | none =>
  have hz : ¬ min ((freeP hs ps left w).length : Int) ((withoutL w ps).length : Int) < 0 := by omega
  simp only [sizesP, choL, hz, if_false] at h
  rw [List.mem_flatMap] at h
  obtain ⟨m, hm, hc⟩ := h
  obtain ⟨h1, h2⟩ := combos_sub _ _ _ hc
  have := downN_bounds hm
  exact ⟨h1, by show c.length ≤ _; omega⟩
end Go.Proofs.YtklfficlegfhjaaGreat
/- The program's search and the reference's go together. -/
namespace Go.Proofs.YtklfficlegfhjaaGreat
open Go

theorem foldl_if {α : Type} (p : α → Prop) [DecidablePred p] (g : α → Int) : ∀ (l : List α) (a : Int), l.foldl (fun a x => if p x then a + g x else a) a = a + l.foldl (fun a x => if p x then a + g x else a) 0
 | [], a => by simp
 | x :: l, a => by
  rw [List.foldl_cons, List.foldl_cons]
  by_cases h : p x
  ·
   rw [if_pos h, if_pos h, foldl_if p g l (a + g x), foldl_if p g l (0 + g x)]; omega
  ·
   rw [if_neg h, if_neg h, foldl_if p g l a]
theorem used_app (ws : List Wt) (P Q : List Pl) (d : Int) : usedI ws (P ++ Q) d = usedI ws P d + usedI ws Q d := by
 unfold usedI
 rw [List.foldl_append, foldl_if]
theorem used_cons (ws : List Wt) (p : Pl) (Q : List Pl) (d : Int) : usedI ws (p :: Q) d = (if p.dv = d then szOf ws p.st else 0) + usedI ws Q d := by
 have := used_app ws [p] Q d
 rw [List.singleton_append] at this
 rw [this]
 unfold usedI
 simp only [List.foldl_cons, List.foldl_nil]
 by_cases h : p.dv = d <;> simp [h]
theorem used_zip (ws : List Wt) (w : Wt) (d : Int) : ∀ (os ds : List Int), ds.length ≤ os.length → usedI ws ((os.zip ds).map (fun x => (⟨w.st, x.1, x.2⟩ : Pl))) d = (ds.count d : Int) * szOf ws w.st
 | _, [], _ => by simp [usedI]
 | [], _ :: _, h => by simp at h
 | o :: os, e :: ds, h => by
  rw [List.zip_cons_cons, List.map_cons, used_cons, used_zip ws w d os ds (by simpa using h), List.count_cons]
  by_cases he : e = d
  ·
   subst he; simp [Int.add_mul]; omega
  ·
   simp [he]
theorem wat_mem {ws : List Wt} {w : Wt} : ws.Nodup ∧ (ws.map Wt.st).Nodup ∨ (ws.map Wt.st).Nodup → w ∈ ws → wat ws w.st = some w := by
 intro h hm
 replace h : (ws.map Wt.st).Nodup := h.elim (·.2) id
 induction ws with
 | nil => cases hm
 | cons v ws ih =>
  rw [List.map_cons, List.nodup_cons] at h
  unfold wat
  rw [List.find?_cons]
  rcases List.mem_cons.1 hm with rfl | hm
  ·
   simp
  ·
   have hne : ¬ v.st = w.st := fun e => h.1 (e ▸ List.mem_map_of_mem hm)
   simp only [hne, decide_false]
   exact ih hm h.2
theorem sz_mem {ws : List Wt} {w : Wt} (h : (ws.map Wt.st).Nodup) (hm : w ∈ ws) : szOf ws w.st = w.sz := by
 unfold szOf
 rw [wat_mem (.inr h) hm]
theorem used_add {ws : List Wt} {w : Wt} (h : (ws.map Wt.st).Nodup) (hm : w ∈ ws) (P : List Pl) (ds : List Int) (hl : ds.length ≤ (withoutL w P).length) (d : Int) :
  usedI ws (addL w P ds) d = usedI ws P d + (ds.count d : Int) * w.sz := by
 unfold addL
 rw [used_app, used_zip ws w d _ _ hl, sz_mem h hm]
/-- P says of the stripe s what ps says. -/
def Same1 (ps P : List Pl) (s : List UInt8) : Prop := (∀ d, hasAt P s d = hasAt ps s d) ∧ ∀ i, hasIx P s i = hasIx ps s i
theorem Same1.without {ps P : List Pl} {w : Wt} (h : Same1 ps P w.st) : withoutL w P = withoutL w ps := by
 unfold withoutL
 congr 1; funext i; rw [h.2]
theorem Same1.add {ps P : List Pl} {s : List UInt8} (h : Same1 ps P s) {w : Wt} (hne : w.st ≠ s) (ds : List Int) : Same1 ps (addL w P ds) s := by
 constructor
 ·
  intro d
  unfold hasAt addL
  rw [List.any_append, show (P.any fun p => decide (p.st = s ∧ p.dv = d)) = hasAt P s d from rfl, h.1 d, List.any_map]
  rw [show List.any ((withoutL w P).zip ds) _ = false from List.any_eq_false.2 (fun x _ => by simp [Function.comp, hne]), Bool.or_false]; rfl
 ·
  intro i
  unfold hasIx addL
  rw [List.any_append, show (P.any fun p => decide (p.st = s ∧ p.ix = i)) = hasIx P s i from rfl, h.2 i, List.any_map]
  rw [show List.any ((withoutL w P).zip ds) _ = false from List.any_eq_false.2 (fun x _ => by simp [Function.comp, hne]), Bool.or_false]; rfl
/-- What is left, by holder. -/
def RelL (ws : List Wt) (H : List Hd) (left : List Int) (P : List Pl) : Prop := left.length = H.length ∧ ∀ j : Int, 0 ≤ j → j < (H.length : Int) → zAt left j = (hAt H j).qt - usedI ws P (hAt H j).dv
theorem take_length (z : Int) : ∀ (c : List Int) (left : List Int), (takeL left c z).length = left.length
 | [], left => rfl
 | j :: c, left => by
  rw [takeL, List.foldl_cons]
  exact (take_length z c _).trans (by simp)
theorem zAt_set {l : List Int} {j i : Int} {u : Int} (hj : 0 ≤ j) (hi : 0 ≤ i) (hil : i < (l.length : Int)) : zAt (l.set j.toNat u) i = if j = i then u else zAt l i := by
 unfold zAt
 rw [List.getD_eq_getElem?_getD, List.getD_eq_getElem?_getD, List.getElem?_set]
 by_cases h : j = i
 ·
  subst h
  rw [if_pos rfl, if_pos rfl, if_pos (by omega)]; rfl
 ·
  rw [if_neg (by omega), if_neg h]
theorem take_at (z : Int) : ∀ (c : List Int) (left : List Int), (∀ j ∈ c, 0 ≤ j) → ∀ i, 0 ≤ i → i < (left.length : Int) → zAt (takeL left c z) i = zAt left i - (c.count i : Int) * z
 | [], left, _, i, _, _ => by simp [takeL]
 | j :: c, left, h, i, h0, h1 => by
  rw [takeL, List.foldl_cons]
  refine (take_at z c (left.set j.toNat (zAt left j - z)) (fun k hk => h k (by simp [hk])) i h0 (by simpa using h1)).trans ?_
  rw [zAt_set (h j (by simp)) h0 h1, List.count_cons]
  by_cases e : j = i
  ·
   subst e; simp [Int.add_mul]; omega
  ·
   simp [e]
theorem hAt_nat (H : List Hd) {k : Nat} (hk : k < H.length) : hAt H (k : Int) = H[k] := by
 simp [hAt, List.getD_eq_getElem?_getD, hk]
theorem hAt_inj {H : List Hd} (h : (H.map Hd.dv).Nodup) {i j : Int} (hi : 0 ≤ i ∧ i < (H.length : Int)) (hj : 0 ≤ j ∧ j < (H.length : Int)) (e : (hAt H i).dv = (hAt H j).dv) : i = j := by
 obtain ⟨a, rfl⟩ : ∃ a : Nat, i = (a : Int) := ⟨i.toNat, by omega⟩
 obtain ⟨b, rfl⟩ : ∃ b : Nat, j = (b : Int) := ⟨j.toNat, by omega⟩
 rw [hAt_nat H (by omega), hAt_nat H (by omega)] at e
 have := (List.getElem_inj (xs := H.map Hd.dv) (i := a) (j := b) (h₀ := by simp; omega) (h₁ := by simp; omega) h).1 (by simpa using e)
 omega
theorem count_dev {H : List Hd} (h : (H.map Hd.dv).Nodup) {i : Int} (hi : 0 ≤ i ∧ i < (H.length : Int)) : ∀ (c : List Int), (∀ j ∈ c, 0 ≤ j ∧ j < (H.length : Int)) → (c.map (fun j => (hAt H j).dv)).count (hAt H i).dv = c.count i
 | [], _ => rfl
 | j :: c, hc => by
  rw [List.map_cons, List.count_cons, List.count_cons, count_dev h hi c (fun k hk => hc k (by simp [hk]))]
  by_cases e : j = i
  ·
   subst e; simp
  ·
   have : ¬ (hAt H j).dv = (hAt H i).dv := fun h9 => e (hAt_inj h (hc j (by simp)) hi h9)
   simp [e, this]
theorem RelL.take {ws : List Wt} {H : List Hd} {left : List Int} {P : List Pl} (h : RelL ws H left P) (hH : (H.map Hd.dv).Nodup) (hw : (ws.map Wt.st).Nodup) {w : Wt} (hm : w ∈ ws) {c : List Int} (hc : ∀ j ∈ c, 0 ≤ j ∧ j < (H.length : Int)) (hl : c.length ≤ (withoutL w P).length) :
  RelL ws H (takeL left c w.sz) (addL w P (c.map (fun j => (hAt H j).dv))) := by
 refine ⟨(take_length _ _ _).trans h.1, fun j h0 h1 => ?_⟩
 rw [take_at w.sz c left (fun k hk => (hc k hk).1) j h0 (by rw [h.1]; exact h1), used_add hw hm P _ (by simpa using hl), count_dev hH ⟨h0, h1⟩ c hc, h.2 j h0 h1]
 omega
theorem up_hAt (H : List Hd) : (upI (H.length : Int)).map (hAt H) = H := by
 apply List.ext_getElem
 ·
  simp [upI]
 ·
  intro k h1 h2
  simp only [upI, List.getElem_map, List.getElem_range]
  exact hAt_nat H h2
theorem free_eq {ws : List Wt} {hs : List Hd} {left : List Int} {ps P : List Pl} (h : RelL ws (prefL hs) left P) {w : Wt} (hs1 : Same1 ps P w.st) :
  freeL ws hs P w = (freeP (prefL hs) ps left w).map (fun j => (hAt (prefL hs) j).dv) := by
 unfold freeL freeP
 generalize prefL hs = H at h
 conv => lhs; rw [← up_hAt H]
 rw [List.filter_map, List.map_map]
 have : (upI (H.length : Int)).filter ((fun h => decide (usedI ws P h.dv + w.sz ≤ h.qt) && !hasAt P w.st h.dv) ∘ hAt H) = (upI (H.length : Int)).filter (fun j => !hasAt ps w.st (hAt H j).dv && decide (w.sz ≤ zAt left j)) := by
  refine List.filter_congr (fun j hj => ?_)
  obtain ⟨h0, h1⟩ := upI_mem.1 hj
  simp only [Function.comp, hs1.1]
  rw [Bool.and_comm]
  congr 1
  rw [h.2 j h0 h1]
  exact decide_eq_decide.2 (by omega)
 rw [this]; rfl
theorem rchoices_eq {ws : List Wt} {hs : List Hd} {left : List Int} {ps P : List Pl} (h : RelL ws (prefL hs) left P) {w : Wt} (hs1 : Same1 ps P w.st) {ex : Option Int} (hex : ∀ x, ex = some x → 0 ≤ w.da + x) :
  rchoices ws hs P ex w = (choP (prefL hs) ps ex left w).map (List.map (fun j => (hAt (prefL hs) j).dv)) := by
 unfold rchoices choP
 simp only [free_eq h hs1, hs1.without]
 generalize freeP (prefL hs) ps left w = l
 cases ex with
 | some x =>
  have hx := hex x rfl
  by_cases hn : w.to < w.da + x
  ·
   simp only [sizesP, hn, if_true]
   simp [choL]
  ·
   have hz : ¬ w.da + x < 0 := by omega
   simp only [sizesP, hn, if_false, choL, hz, downN_self, List.flatMap_cons, List.flatMap_nil, List.append_nil]
   exact combos_map _ _ _
 | none =>
  have hz : ¬ min (l.length : Int) ((withoutL w ps).length : Int) < 0 := by omega
  simp only [sizesP, choL, hz, if_false, List.length_map]
  rw [show (min (l.length : Int) ((withoutL w ps).length : Int)).toNat = min l.length (withoutL w ps).length by omega]
  rw [List.map_flatMap]
  show List.flatMap _ (downN (0 : Int).toNat _) = _
  congr 1
  funext n
  exact combos_map _ _ _
theorem rgo_stop {first : Bool} {budget : Nat} {f : List Int → RS → RS} {s : RS} (h : s.stop first budget = true) : ∀ L, rgo first budget f L s = s
 | [] => rfl
 | _ :: _ => by rw [rgo, if_pos h]
theorem go_sim {σ : Type} {first : Bool} {budget : Nat} {R : PS σ → RS → Prop} {f : List Int → PS σ → Bool × PS σ} {g : List Int → RS → RS} {tr : List Int → List Int} : ∀ (L : List (List Int)),
  (∀ c ∈ L, ∀ sp sr, R sp sr → sr.stop first budget = false → (f c sp).1 = !(g (tr c) sr).stop first budget ∧ R (f c sp).2 (g (tr c) sr)) → ∀ sp sr, R sp sr → sr.stop first budget = false →
  (pgo f L sp).1 = !(rgo first budget g (L.map tr) sr).stop first budget ∧ R (pgo f L sp).2 (rgo first budget g (L.map tr) sr)
 | [], _, sp, sr, hr, hs => by simp [pgo, rgo, hs, hr]
 | c :: L, h, sp, sr, hr, hs => by
  obtain ⟨h1, h2⟩ := h c (by simp) sp sr hr hs
  rw [List.map_cons, rgo, if_neg (by rw [hs]; decide), pgo]
  cases hst : (g (tr c) sr).stop first budget with
  | false =>
   rw [h1, hst, if_pos (by decide)]
   exact go_sim L (fun c hc => h c (by simp [hc])) _ _ h2 hst
  | true =>
   rw [h1, hst, if_neg (by decide), rgo_stop hst, hst]
   exact ⟨rfl, h2⟩
theorem plcs_snoc (H : List Hd) (ps : List Pl) (wc : List (Wt × List Int)) (w : Wt) (c : List Int) : plcs H ps (wc ++ [(w, c)]) = addL w (plcs H ps wc) (c.map (fun j => (hAt H j).dv)) := by
 unfold plcs
 rw [List.foldl_append]; rfl
/-- The choices for the first wants: out of the holders, ascending, not more than lack a place. -/
def OkC (H : List Hd) (ps : List Pl) (wc : List (Wt × List Int)) : Prop := ∀ x ∈ wc, (∀ j ∈ x.2, 0 ≤ j ∧ j < (H.length : Int)) ∧ x.2.length ≤ (withoutL x.1 ps).length
theorem look_sim {σ : Type} {ws : List Wt} {hs : List Hd} {ps : List Pl} {ex : Option Int} {first : Bool} {budget : Nat} {X : σ → Bool → List Pl → Prop} {fd : List (List Int) → σ → Bool × σ} {V : List Pl → Prop}
  (hV : ∀ w ∈ ws, ∀ left P c, V P → RelL ws (prefL hs) left P → Same1 ps P w.st → c ∈ choP (prefL hs) ps ex left w → V (addL w P (c.map (fun j => (hAt (prefL hs) j).dv))))
  (hH : ((prefL hs).map Hd.dv).Nodup) (hw : (ws.map Wt.st).Nodup) (hex : ∀ w ∈ ws, ∀ c, exOk ps w c ex → c.length ≤ (withoutL w ps).length) (hx0 : ∀ w ∈ ws, ∀ x, ex = some x → 0 ≤ w.da + x)
  (hleaf : ∀ (cs : List (List Int)) (x : σ) (fnd : Bool) (best : List Pl), cs.length = ws.length → OkC (prefL hs) ps (ws.zip cs) → V (plcs (prefL hs) ps (ws.zip cs)) → X x fnd best → (first && fnd) = false →
   let P := plcs (prefL hs) ps (ws.zip cs)
   let s := if !fnd || (!first && greaterB (surplL ws P) (surplL ws best)) then (true, P) else (fnd, best)
   X (fd cs x).2 s.1 s.2 ∧ (fd cs x).1 = !(first && s.1)) :
  ∀ (r done : List Wt) (cs : List (List Int)) (left : List Int) (sp : PS σ) (sr : RS), ws = done ++ r → cs.length = done.length → OkC (prefL hs) ps (done.zip cs) → V (plcs (prefL hs) ps (done.zip cs)) → RelL ws (prefL hs) left (plcs (prefL hs) ps (done.zip cs)) → (∀ w ∈ r, Same1 ps (plcs (prefL hs) ps (done.zip cs)) w.st) →
   (sp.n = sr.n ∧ sp.wi = decide (sr.n ≤ budget) ∧ X sp.x sr.fnd sr.best) → sr.stop first budget = false →
   (plook (choP (prefL hs) ps ex) fd budget r cs left sp).1 = !(rlook ws hs ex first budget r (plcs (prefL hs) ps (done.zip cs)) sr).stop first budget ∧
   ((plook (choP (prefL hs) ps ex) fd budget r cs left sp).2.n = (rlook ws hs ex first budget r (plcs (prefL hs) ps (done.zip cs)) sr).n ∧
       (plook (choP (prefL hs) ps ex) fd budget r cs left sp).2.wi = decide ((rlook ws hs ex first budget r (plcs (prefL hs) ps (done.zip cs)) sr).n ≤ budget) ∧
       X (plook (choP (prefL hs) ps ex) fd budget r cs left sp).2.x (rlook ws hs ex first budget r (plcs (prefL hs) ps (done.zip cs)) sr).fnd (rlook ws hs ex first budget r (plcs (prefL hs) ps (done.zip cs)) sr).best) := by
 intro r
 induction r with
 | nil =>
  intro done cs left sp sr hdn hlen hok hv hrel hsame ⟨hn, hwi, hx⟩ hstop
  rw [List.append_nil] at hdn
  subst hdn
  have hst : decide (budget < sr.n) = false ∧ (first && sr.fnd) = false := by simpa [RS.stop] using hstop
  unfold plook rlook
  by_cases hb : budget < sr.n + 1
  ·
   have h1 : RS.stop first budget { sr with n := sr.n + 1 } = true := by simp [RS.stop, hb]
   simp only [hn, hb, if_true, h1]
   exact ⟨rfl, trivial, by simp; omega, hx⟩
  ·
   have h1 : RS.stop first budget { sr with n := sr.n + 1 } = false := by simp only [RS.stop, hb, decide_false, Bool.false_or]; exact hst.2
   obtain ⟨h2, h3⟩ := hleaf cs sp.x sr.fnd sr.best hlen hok hv hx hst.2
   simp only [hn, hb, if_false, h1, Bool.false_eq_true]
   have hwi' : sp.wi = decide (sr.n + 1 ≤ budget) := by
    rw [hwi]; have := hst.1; simp only [decide_eq_false_iff_not] at this
    exact decide_eq_decide.2 (by omega)
   cases hc : (!sr.fnd || !first && greaterB (surplL ws (plcs (prefL hs) ps (ws.zip cs))) (surplL ws sr.best)) with
   | true =>
    simp only [hc, if_true] at h2 h3 ⊢
    exact ⟨by rw [h3]; simp [RS.stop, hb], trivial, hwi', h2⟩
   | false =>
    simp only [hc, if_false, Bool.false_eq_true] at h2 h3 ⊢
    exact ⟨by rw [h3]; simp [RS.stop, hb], trivial, hwi', h2⟩
 | cons w r ih =>
  intro done cs left sp sr hdn hlen hok hv hrel hsame ⟨hn, hwi, hx⟩ hstop
  have hst : decide (budget < sr.n) = false ∧ (first && sr.fnd) = false := by simpa [RS.stop] using hstop
  have hwm : w ∈ ws := by rw [hdn]; simp
  unfold plook rlook
  by_cases hb : budget < sr.n + 1
  ·
   have h1 : RS.stop first budget { sr with n := sr.n + 1 } = true := by simp [RS.stop, hb]
   simp only [hn, hb, if_true, h1]
   exact ⟨rfl, trivial, by simp; omega, hx⟩
  ·
   have h1 : RS.stop first budget { sr with n := sr.n + 1 } = false := by simp only [RS.stop, hb, decide_false, Bool.false_or]; exact hst.2
   have hwi' : sp.wi = decide (sr.n + 1 ≤ budget) := by
    rw [hwi]; have := hst.1; simp only [decide_eq_false_iff_not] at this
    exact decide_eq_decide.2 (by omega)
   simp only [hn, hb, if_false, h1, Bool.false_eq_true]
   rw [rchoices_eq hrel (hsame w (by simp)) (hx0 w hwm)]
   refine go_sim (R := fun (sp : PS σ) (sr : RS) => sp.n = sr.n ∧ sp.wi = decide (sr.n ≤ budget) ∧ X sp.x sr.fnd sr.best) _ (fun c hc sp' sr' hR hs' => ?_) _ _ ⟨rfl, hwi', hx⟩ h1
   obtain ⟨hcs, hce⟩ := cho_mem hc
   have hcr : ∀ j ∈ c, 0 ≤ j ∧ j < ((prefL hs).length : Int) := fun j hj => by
    have := hcs.subset hj
    unfold freeP at this
    exact upI_mem.1 (List.mem_filter.1 this).1
   have hcl := hex w hwm c hce
   have hzip : (done ++ [w]).zip (cs ++ [c]) = done.zip cs ++ [(w, c)] := by rw [List.zip_append hlen.symm]; rfl
   have := ih (done ++ [w]) (cs ++ [c]) (takeL left c w.sz) sp' sr' (by rw [hdn]; simp) (by simp [hlen]) (by
     rw [hzip]
     intro x hx
     rcases List.mem_append.1 hx with hx | hx
     ·
      exact hok x hx
     ·
      rw [List.mem_singleton] at hx; subst hx; exact ⟨hcr, hcl⟩)
    (by rw [hzip, plcs_snoc]; exact hV w hwm left _ c hv hrel (hsame w (by simp)) hc)
    (by rw [hzip, plcs_snoc]; exact hrel.take hH hw hwm hcr (by rw [(hsame w (by simp)).without]; exact hcl))
    (fun v hv => by
     rw [hzip, plcs_snoc]
     refine (hsame v (by simp [hv])).add (fun e => ?_) _
     rw [hdn, List.map_append, List.nodup_append] at hw
     have := hw.2.1
     rw [List.map_cons, List.nodup_cons] at this
     exact this.1 (e ▸ List.mem_map_of_mem hv)) hR hs'
   rw [hzip, plcs_snoc] at this
   exact this
end Go.Proofs.YtklfficlegfhjaaGreat
/- Spreads and surpluses behind choices; Possible and Assign of the reference out of the program's search. -/
namespace Go.Proofs.YtklfficlegfhjaaGreat
open Go

theorem snocRec {α : Type} {motive : List α → Prop} (nil : motive []) (snoc : ∀ l x, motive l → motive (l ++ [x])) (l : List α) : motive l := by
 rw [← l.reverse_reverse]
 induction l.reverse with
 | nil => exact nil
 | cons x l ih => rw [List.reverse_cons]; exact snoc _ _ ih
theorem filter_both {α : Type} (p : α → Bool) : ∀ l : List α, (l.filter p).length + (l.filter (fun x => !p x)).length = l.length
 | [] => rfl
 | x :: l => by
  have := filter_both p l
  cases h : p x <;> simp [h] <;> omega
theorem spread_step (s : List UInt8) (P : List Pl) (p : Pl) : spreadL s (P ++ [p]) = if p.st = s ∧ p.ix ∉ spreadL s P then spreadL s P ++ [p.ix] else spreadL s P := by
 unfold spreadL
 rw [List.foldl_append]; rfl
theorem spread_mem (s : List UInt8) (P : List Pl) (i : Int) : i ∈ spreadL s P ↔ hasIx P s i = true := by
 induction P using snocRec with
 | nil => simp [spreadL, hasIx]
 | snoc P p ih =>
  rw [spread_step]
  have h1 : hasIx (P ++ [p]) s i = (hasIx P s i || decide (p.st = s ∧ p.ix = i)) := by simp [hasIx]
  rw [h1, Bool.or_eq_true, decide_eq_true_eq]
  by_cases h : p.st = s ∧ p.ix ∉ spreadL s P
  ·
   rw [if_pos h, List.mem_append, List.mem_singleton, ih]
   constructor
   ·
    rintro (h2 | h2)
    ·
     exact .inl h2
    ·
     exact .inr ⟨h.1, h2.symm⟩
   ·
    rintro (h2 | h2)
    ·
     exact .inl h2
    ·
     exact .inr h2.2.symm
  ·
   rw [if_neg h, ih]
   constructor
   ·
    exact .inl
   ·
    rintro (h2 | h2)
    ·
     exact h2
    ·
     rw [← ih]
     exact Classical.byContradiction (fun h3 => h ⟨h2.1, fun h4 => h3 (h2.2 ▸ h4)⟩)
theorem spread_nodup (s : List UInt8) (P : List Pl) : (spreadL s P).Nodup := by
 induction P using snocRec with
 | nil => exact List.nodup_nil
 | snoc P p ih =>
  rw [spread_step]
  by_cases h : p.st = s ∧ p.ix ∉ spreadL s P
  ·
   rw [if_pos h, List.nodup_append]
   exact ⟨ih, by simp, fun a ha b hb e => by rw [List.mem_singleton] at hb; subst hb; subst e; exact h.2 ha⟩
  ·
   rw [if_neg h]; exact ih
theorem spread_other (s : List UInt8) (P Q : List Pl) (h : ∀ q ∈ Q, q.st ≠ s) : spreadL s (P ++ Q) = spreadL s P := by
 induction Q using snocRec with
 | nil => rw [List.append_nil]
 | snoc Q q ih =>
  rw [← List.append_assoc, spread_step, if_neg (fun h1 => h q (by simp) h1.1), ih (fun x hx => h x (by simp [hx]))]
theorem spread_zip (w : Wt) (P : List Pl) : ∀ (os ds : List Int), os.Nodup → (∀ i ∈ os, i ∉ spreadL w.st P) → ds.length ≤ os.length →
  (spreadL w.st (P ++ (os.zip ds).map (fun x => (⟨w.st, x.1, x.2⟩ : Pl)))).length = (spreadL w.st P).length + ds.length
 | _, [], _, _, _ => by simp
 | [], _ :: _, _, _, h => by simp at h
 | o :: os, d :: ds, hn, hm, hl => by
  rw [List.nodup_cons] at hn
  rw [List.zip_cons_cons, List.map_cons, ← List.singleton_append, ← List.append_assoc]
  dsimp only
  have e : spreadL w.st (P ++ [⟨w.st, o, d⟩]) = spreadL w.st P ++ [o] := by rw [spread_step, if_pos ⟨rfl, hm o (by simp)⟩]
  rw [spread_zip w (P ++ [(⟨w.st, o, d⟩ : Pl)]) os ds hn.2 (fun i hi => by
   rw [e, List.mem_append, List.mem_singleton]
   rintro (h | h)
   ·
    exact hm i (by simp [hi]) h
   ·
    exact hn.1 (h ▸ hi)) (by simpa using hl), e]
  simp; omega
theorem without_mem {w : Wt} {P : List Pl} {i : Int} : i ∈ withoutL w P ↔ (0 ≤ i ∧ i < w.to) ∧ hasIx P w.st i = false := by
 unfold withoutL
 rw [List.mem_filter, upI_mem]; simp
theorem without_nodup (w : Wt) (P : List Pl) : (withoutL w P).Nodup := ((upI_pw w.to).imp (fun h => by omega)).filter _
theorem spread_add (w : Wt) (P : List Pl) (ds : List Int) (h : ds.length ≤ (withoutL w P).length) : (spreadL w.st (addL w P ds)).length = (spreadL w.st P).length + ds.length :=
 spread_zip w P _ ds (without_nodup w P) (fun i hi h2 => by rw [spread_mem] at h2; rw [(without_mem.1 hi).2] at h2; cases h2) h
theorem spread_add_other {w : Wt} {s : List UInt8} (hne : w.st ≠ s) (P : List Pl) (ds : List Int) : spreadL s (addL w P ds) = spreadL s P :=
 spread_other s P _ (fun q hq => by
  obtain ⟨x, _, rfl⟩ := List.mem_map.1 hq
  exact hne)
/-- All places of the stripe name pieces of the want. -/
def InW (w : Wt) (P : List Pl) : Prop := ∀ p ∈ P, p.st = w.st → 0 ≤ p.ix ∧ p.ix < w.to
theorem spread_base {w : Wt} {P : List Pl} (h : InW w P) (h0 : 0 ≤ w.to) : ((spreadL w.st P).length : Int) = w.to - ((withoutL w P).length : Int) := by
 have hp : (spreadL w.st P).Perm ((upI w.to).filter (fun i => hasIx P w.st i)) := by
  refine (List.perm_ext_iff_of_nodup (spread_nodup _ _) (((upI_pw w.to).imp (fun h => by omega)).filter _)).2 (fun i => ?_)
  rw [spread_mem, List.mem_filter, upI_mem]
  constructor
  ·
   intro h1
   refine ⟨?_, h1⟩
   unfold hasIx at h1
   obtain ⟨p, hp, h2⟩ := List.any_eq_true.1 h1
   rw [decide_eq_true_eq] at h2
   rw [← h2.2]
   exact h p hp h2.1
  ·
   exact fun h1 => h1.2
 have hl := hp.length_eq
 have hs := filter_both (fun i => hasIx P w.st i) (upI w.to)
 rw [upI_length] at hs
 rw [hl]
 show _ = w.to - ((List.filter (fun i => !hasIx P w.st i) (upI w.to)).length : Int)
 omega
theorem plcs_other {H : List Hd} {s : List UInt8} : ∀ (wc : List (Wt × List Int)) (P : List Pl), (∀ x ∈ wc, x.1.st ≠ s) → spreadL s (plcs H P wc) = spreadL s P ∧ Same1 P (plcs H P wc) s
 | [], P, _ => ⟨rfl, fun _ => rfl, fun _ => rfl⟩
 | x :: wc, P, h => by
  have hx := h x (by simp)
  obtain ⟨h1, h2⟩ := plcs_other wc (addL x.1 P (x.2.map (fun j => (hAt H j).dv))) (fun y hy => h y (by simp [hy]))
  have h3 : Same1 P (addL x.1 P (x.2.map (fun j => (hAt H j).dv))) s := Same1.add (⟨fun _ => rfl, fun _ => rfl⟩ : Same1 P P s) hx _
  exact ⟨h1.trans (spread_add_other hx _ _), fun d => (h2.1 d).trans (h3.1 d), fun d => (h2.2 d).trans (h3.2 d)⟩
theorem plcs_app (H : List Hd) (ps : List Pl) (a b : List (Wt × List Int)) : plcs H ps (a ++ b) = plcs H (plcs H ps a) b := by
 unfold plcs
 rw [List.foldl_append]
theorem plcs_spread {H : List Hd} {ps : List Pl} {wc : List (Wt × List Int)} (hn : (wc.map (fun x => x.1.st)).Nodup) (hok : OkC H ps wc) (hin : ∀ x ∈ wc, InW x.1 ps ∧ 0 ≤ x.1.to) {x : Wt × List Int} (hx : x ∈ wc) :
  spreadI x.1.st (plcs H ps wc) = x.1.to - ((withoutL x.1 ps).length : Int) + (x.2.length : Int) := by
 obtain ⟨a, b, rfl⟩ := List.append_of_mem hx
 rw [List.map_append, List.map_cons, List.nodup_append, List.nodup_cons] at hn
 have ha : ∀ y ∈ a, y.1.st ≠ x.1.st := fun y hy => hn.2.2 _ (List.mem_map_of_mem hy) _ (by simp)
 have hb : ∀ y ∈ b, y.1.st ≠ x.1.st := fun y hy e => hn.2.1.1 (e ▸ List.mem_map_of_mem (f := fun z : Wt × List Int => z.1.st) hy)
 have e : plcs H ps (a ++ x :: b) = plcs H (addL x.1 (plcs H ps a) (x.2.map (fun j => (hAt H j).dv))) b := by
  rw [plcs_app]; rfl
 obtain ⟨h1, h2⟩ := plcs_other (H := H) a ps ha
 unfold spreadI
 rw [e, (plcs_other b _ hb).1, spread_add _ _ _ (by rw [h2.without, List.length_map]; exact (hok x hx).2), h1, List.length_map]
 have := spread_base (hin x hx).1 (hin x hx).2
 omega
theorem foldl_zip {α β γ : Type} (f : γ → α → γ) (g : γ → α × β → γ) : ∀ (ws : List α) (cs : List β) (a : γ), cs.length = ws.length → (∀ x ∈ ws.zip cs, ∀ a, f a x.1 = g a x) → ws.foldl f a = (ws.zip cs).foldl g a
 | [], [], _, _, _ => rfl
 | [], _ :: _, _, h, _ => by simp at h
 | _ :: _, [], _, h, _ => by simp at h
 | w :: ws, c :: cs, a, h, hx => by
  rw [List.zip_cons_cons, List.foldl_cons, List.foldl_cons, hx (w, c) (by simp)]
  exact foldl_zip f g ws cs _ (by simpa using h) (fun x hm => hx x (by simp [hm]))
theorem zip_fst_map {α β γ : Type} (f : α → γ) (ws : List α) (cs : List β) (h : cs.length = ws.length) : (ws.zip cs).map (fun x => f x.1) = ws.map f := by
 have : (fun x : α × β => f x.1) = f ∘ Prod.fst := rfl
 rw [this, ← List.map_map, List.map_fst_zip (by omega)]
theorem surpl_eq {H : List Hd} {ws : List Wt} {ps : List Pl} (hn : (ws.map Wt.st).Nodup) (hin : ∀ w ∈ ws, InW w ps ∧ 0 ≤ w.to) {cs : List (List Int)} (hl : cs.length = ws.length) (hok : OkC H ps (ws.zip cs)) :
  surplL ws (plcs H ps (ws.zip cs)) = surpP ps (ws.zip cs) := by
 unfold surplL surpP
 refine foldl_zip _ _ ws cs _ hl (fun x hx a => ?_)
 rw [plcs_spread (by rw [zip_fst_map Wt.st ws cs hl]; exact hn) hok (fun y hy => hin _ (List.of_mem_zip hy).1) hx]

/-! ### Possible, Assign -/
theorem pref_dv (h : Hd) : ∀ l : List Hd, (insH h l).Perm (h :: l)
 | [] => List.Perm.refl _
 | x :: xs => by
  unfold insH
  split
  ·
   exact List.Perm.refl _
  ·
   exact ((pref_dv h xs).cons x).trans (List.Perm.swap _ _ _)
theorem prefL_perm (hs : List Hd) : (prefL hs).Perm hs := by
 unfold prefL
 suffices h : ∀ (l out : List Hd), (l.foldl (fun out h => insH h out) out).Perm (out ++ l) from by simpa using h hs []
 intro l
 induction l with
 | nil => intro out; simp
 | cons x l ih =>
  intro out
  rw [List.foldl_cons]
  refine (ih _).trans (((pref_dv x out).append_right l).trans ?_)
  exact List.perm_middle.symm
def left0 (ws : List Wt) (hs : List Hd) (ps : List Pl) : List Int := (prefL hs).map (fun h => h.qt - usedI ws ps h.dv)
theorem left0_rel (ws : List Wt) (hs : List Hd) (ps : List Pl) : RelL ws (prefL hs) (left0 ws hs ps) ps := by
 refine ⟨by simp [left0], fun j h0 h1 => ?_⟩
 obtain ⟨k, rfl⟩ : ∃ k : Nat, j = (k : Int) := ⟨j.toNat, by omega⟩
 have hk : k < (prefL hs).length := by omega
 rw [hAt_nat _ hk]
 simp [zAt, left0, hk]
/-- Possible, as the program finds it. -/
def possP (ws : List Wt) (hs : List Hd) (x : Int) (budget : Nat) : Bool × Int :=
 let r := plook (choP (prefL hs) [] (some x)) fdP budget ws [] (left0 ws hs []) ⟨0, true, false⟩
 if r.2.wi then (r.2.x, 0) else (false, 11)
/-- The choices that Assign finds, if it is not over budget. -/
def findA (ws : List Wt) (hs : List Hd) (ps : List Pl) (budget : Nat) : Bool × Option (List (List Int)) :=
 let r := plook (choP (prefL hs) ps none) (fdA ws ps) budget ws [] (left0 ws hs ps) ⟨0, true, none⟩
 (r.2.wi, r.2.x)
theorem wants_st {ws : List Wt} (h : wantsB ws = true) : (ws.map Wt.st).Nodup := by
 unfold wantsB at h
 simp only [Bool.and_eq_true, decide_eq_true_eq] at h
 exact h.2
theorem wants_all {ws : List Wt} (h : wantsB ws = true) {w : Wt} (hm : w ∈ ws) : 1 ≤ w.sz ∧ w.sz ≤ 65536 ∧ 1 ≤ w.da ∧ w.da ≤ 8 ∧ w.da ≤ w.to ∧ w.to ≤ 16 := by
 unfold wantsB at h
 simp only [Bool.and_eq_true, decide_eq_true_eq, List.all_eq_true] at h
 simpa [wtB] using h.1.2 w hm
theorem holders_dv {hs : List Hd} (h : holdersB hs = true) : ((prefL hs).map Hd.dv).Nodup := by
 unfold holdersB at h
 simp only [Bool.and_eq_true, decide_eq_true_eq] at h
 exact ((prefL_perm hs).map Hd.dv).nodup_iff.2 h.2
theorem named_in {ws : List Wt} {ps : List Pl} (hw : wantsB ws = true) (h : namedB ws ps = true) {w : Wt} (hm : w ∈ ws) : InW w ps ∧ 0 ≤ w.to := by
 have := wants_all hw hm
 refine ⟨fun p hp e => ?_, by omega⟩
 have h1 := List.all_eq_true.1 h p hp
 unfold nameB at h1
 rw [e, wat_mem (.inr (wants_st hw)) hm] at h1
 simpa using h1
theorem poss_eq {ws : List Wt} {hs : List Hd} {x : Int} (hw : wantsB ws = true) (hh : holdersB hs = true) (hx : 0 ≤ x) (budget : Nat) : possR ws hs x budget = possP ws hs x budget := by
 have := look_sim (σ := Bool) (ws := ws) (hs := hs) (ps := []) (ex := some x) (first := true) (budget := budget) (X := fun b f _ => b = f) (fd := fdP) (V := fun _ => True) (fun _ _ _ _ _ _ _ _ _ => trivial) (holders_dv hh) (wants_st hw)
  (fun w hm c hc => by
   have := wants_all hw hm
   have h2 : withoutL w [] = upI w.to := List.filter_eq_self.2 (fun _ _ => rfl)
   rw [h2, upI_length]
   have := hc.1; have := hc.2
   omega)
  (fun w hm y e => by cases e; have := wants_all hw hm; omega)
  (fun cs y f best _ _ _ hX hf => by
   have hf' : f = false := by simpa using hf
   subst hf'
   simp [fdP])
  ws [] [] (left0 ws hs []) ⟨0, true, false⟩ ⟨0, false, []⟩ rfl rfl (fun x hx => by cases hx) trivial (left0_rel ws hs []) (fun _ _ => ⟨fun _ => rfl, fun _ => rfl⟩) ⟨rfl, by simp, rfl⟩ (by simp [RS.stop])
 obtain ⟨_, h2, h3, h4⟩ := this
 unfold possR possP
 have e : plcs (prefL hs) [] (([] : List Wt).zip ([] : List (List Int))) = [] := rfl
 rw [e] at h2 h3 h4
 simp only [h3]
 generalize rlook ws hs (some x) true budget ws [] ⟨0, false, []⟩ = s at *
 by_cases hb : budget < s.n
 ·
  rw [if_pos hb, if_neg (by simpa using hb)]
 ·
  rw [if_neg hb, if_pos (by simpa using hb), h4]
end Go.Proofs.YtklfficlegfhjaaGreat
/- Which places are allowed; they stay so where free holders are taken; the order of places. -/
namespace Go.Proofs.YtklfficlegfhjaaGreat
open Go

theorem clashB_iff : ∀ P : List Pl, clashB P = false ↔ P.Pairwise (fun a b => clash a b = false)
 | [] => by simp [clashB]
 | p :: P => by
  rw [clashB, Bool.or_eq_false_iff, clashB_iff P, List.pairwise_cons, List.any_eq_false]
  simp
/-- Allowed places. -/
structure Ok (ws : List Wt) (hs : List Hd) (P : List Pl) : Prop where
 w : wantsB ws = true
 h : holdersB hs = true
 n : namedB ws P = true
 d : ∀ p ∈ P, devB hs p.dv = true
 c : P.Pairwise (fun a b => clash a b = false)
 q : ∀ h ∈ hs, usedI ws P h.dv ≤ h.qt
theorem check_ok {ws : List Wt} {hs : List Hd} {P : List Pl} : checkE ws hs P = 0 ↔ Ok ws hs P := by
 unfold checkE
 constructor
 ·
  intro h
  by_cases h1 : (wantsB ws && holdersB hs && namedB ws P) = true
  ·
   rw [h1, if_neg (by decide)] at h
   by_cases h2 : (P.all (fun p => devB hs p.dv)) = true
   ·
    rw [h2, if_neg (by decide)] at h
    by_cases h3 : clashB P = true
    ·
     rw [if_pos h3] at h; cases h
    ·
     rw [if_neg h3] at h
     by_cases h4 : hs.any (fun h => decide (h.qt < usedI ws P h.dv)) = true
     ·
      rw [if_pos h4] at h; cases h
     ·
      simp only [Bool.and_eq_true] at h1
      refine ⟨h1.1.1, h1.1.2, h1.2, fun p hp => List.all_eq_true.1 h2 p hp, (clashB_iff P).1 (by simpa using h3), fun x hx => ?_⟩
      rw [Bool.not_eq_true, List.any_eq_false] at h4
      have := h4 x hx
      simp at this; omega
   ·
    rw [Bool.not_eq_true] at h2
    rw [h2, if_pos (by decide)] at h; cases h
  ·
   rw [Bool.not_eq_true] at h1
   rw [h1, if_pos (by decide)] at h; cases h
 ·
  intro h
  rw [h.w, h.h, h.n, if_neg (by decide), List.all_eq_true.2 (fun p hp => h.d p hp), if_neg (by decide), (clashB_iff P).2 h.c, if_neg (by decide), if_neg]
  rw [Bool.not_eq_true, List.any_eq_false]
  intro x hx
  have := h.q x hx
  simp; omega
theorem zip_pw {α β : Type} {Z : List (α × β)} : ∀ {os : List α} {ds : List β}, os.Nodup → ds.Nodup → Z = os.zip ds → Z.Pairwise (fun x y => x.1 ≠ y.1 ∧ x.2 ≠ y.2)
 | [], _, _, _, e => by subst e; simp
 | _ :: _, [], _, _, e => by subst e; simp
 | o :: os, d :: ds, h1, h2, e => by
  subst e
  rw [List.nodup_cons] at h1 h2
  rw [List.zip_cons_cons, List.pairwise_cons]
  exact ⟨fun x hx => ⟨fun e => h1.1 ((show o = x.1 from e) ▸ (List.of_mem_zip hx).1), fun e => h2.1 ((show d = x.2 from e) ▸ (List.of_mem_zip hx).2)⟩, zip_pw h1.2 h2.2 rfl⟩
theorem free_mem {H : List Hd} {ps : List Pl} {left : List Int} {w : Wt} {j : Int} : j ∈ freeP H ps left w ↔ (0 ≤ j ∧ j < (H.length : Int)) ∧ hasAt ps w.st (hAt H j).dv = false ∧ w.sz ≤ zAt left j := by
 unfold freeP
 rw [List.mem_filter, upI_mem]; simp
theorem free_nodup (H : List Hd) (ps : List Pl) (left : List Int) (w : Wt) : (freeP H ps left w).Nodup := ((upI_pw _).imp (fun h => by omega)).filter _
theorem dev_nodup {H : List Hd} (hH : (H.map Hd.dv).Nodup) {c : List Int} (hc : c.Nodup) (hr : ∀ j ∈ c, 0 ≤ j ∧ j < (H.length : Int)) : (c.map (fun j => (hAt H j).dv)).Nodup := by
 rw [List.Nodup, List.pairwise_map]
 exact hc.imp_of_mem (fun ha hb hne e => hne (hAt_inj hH (hr _ ha) (hr _ hb) e))
theorem hAt_mem {H : List Hd} {j : Int} (h : 0 ≤ j ∧ j < (H.length : Int)) : hAt H j ∈ H := by
 obtain ⟨k, rfl⟩ : ∃ k : Nat, j = (k : Int) := ⟨j.toNat, by omega⟩
 rw [hAt_nat H (by omega)]
 exact List.getElem_mem _
theorem hasAt_of {P : List Pl} {p : Pl} (h : p ∈ P) : hasAt P p.st p.dv = true := List.any_eq_true.2 ⟨p, h, by simp⟩
theorem hasIx_of {P : List Pl} {p : Pl} (h : p ∈ P) : hasIx P p.st p.ix = true := List.any_eq_true.2 ⟨p, h, by simp⟩
theorem nd_inj {α β : Type} {f : α → β} : ∀ {l : List α}, (l.map f).Nodup → ∀ {a b : α}, a ∈ l → b ∈ l → f a = f b → a = b
 | x :: l, h, a, b, ha, hb, e => by
  rw [List.map_cons, List.nodup_cons] at h
  rcases List.mem_cons.1 ha with h1 | h1
  ·
   rcases List.mem_cons.1 hb with h2 | h2
   ·
    rw [h1, h2]
   ·
    exact absurd (by rw [← h1, e]; exact List.mem_map_of_mem h2) h.1
  ·
   rcases List.mem_cons.1 hb with h2 | h2
   ·
    exact absurd (by rw [← h2, ← e]; exact List.mem_map_of_mem h1) h.1
   ·
    exact nd_inj h.2 h1 h2 e
theorem Ok.add {ws : List Wt} {hs : List Hd} {ps P : List Pl} {left : List Int} (h : Ok ws hs P) {w : Wt} (hm : w ∈ ws) (hrel : RelL ws (prefL hs) left P) (hsame : Same1 ps P w.st) {c : List Int} (hc : c.Sublist (freeP (prefL hs) ps left w)) (hl : c.length ≤ (withoutL w ps).length) :
  Ok ws hs (addL w P (c.map (fun j => (hAt (prefL hs) j).dv))) := by
 have hH := holders_dv h.h
 have hcm : ∀ j ∈ c, (0 ≤ j ∧ j < ((prefL hs).length : Int)) ∧ hasAt ps w.st (hAt (prefL hs) j).dv = false ∧ w.sz ≤ zAt left j := fun j hj => free_mem.1 (hc.subset hj)
 have hcn : c.Nodup := (free_nodup _ _ _ _).sublist hc
 have hdn := dev_nodup hH hcn (fun j hj => (hcm j hj).1)
 have hnew : ∀ q ∈ ((withoutL w P).zip (c.map (fun j => (hAt (prefL hs) j).dv))).map (fun x => (⟨w.st, x.1, x.2⟩ : Pl)), q.st = w.st ∧ q.ix ∈ withoutL w P ∧ ∃ j ∈ c, q.dv = (hAt (prefL hs) j).dv := fun q hq => by
  obtain ⟨x, hx, rfl⟩ := List.mem_map.1 hq
  have := List.of_mem_zip hx
  obtain ⟨j, hj, e⟩ := List.mem_map.1 this.2
  exact ⟨rfl, this.1, j, hj, e.symm⟩
 refine ⟨h.w, h.h, ?_, ?_, ?_, ?_⟩
 ·
  refine List.all_eq_true.2 (fun q hq => ?_)
  unfold addL at hq
  rcases List.mem_append.1 hq with hq | hq
  ·
   exact List.all_eq_true.1 h.n q hq
  ·
   obtain ⟨h1, h2, _⟩ := hnew q hq
   unfold nameB
   rw [h1, wat_mem (.inr (wants_st h.w)) hm]
   simpa using (without_mem.1 h2).1
 ·
  intro q hq
  unfold addL at hq
  rcases List.mem_append.1 hq with hq | hq
  ·
   exact h.d q hq
  ·
   obtain ⟨_, _, j, hj, e⟩ := hnew q hq
   refine List.any_eq_true.2 ⟨hAt (prefL hs) j, (prefL_perm hs).mem_iff.1 (hAt_mem (hcm j hj).1), ?_⟩
   simp [e]
 ·
  unfold addL
  rw [List.pairwise_append]
  refine ⟨h.c, ?_, fun p hp q hq => ?_⟩
  ·
   rw [List.pairwise_map]
   refine (zip_pw (without_nodup w P) hdn rfl).imp (fun hxy => ?_)
   simp [clash, hxy.1, hxy.2]
  ·
   obtain ⟨h1, h2, j, hj, e⟩ := hnew q hq
   unfold clash
   rw [decide_eq_false_iff_not]
   rintro ⟨h3, h4 | h4⟩
   ·
    have := hasIx_of hp
    rw [h3, h1, h4, (without_mem.1 h2).2] at this; cases this
   ·
    have := hasAt_of hp
    rw [h3, h1, h4, e, hsame.1, (hcm j hj).2.1] at this; cases this
 ·
  intro x hx
  rw [used_add (wants_st h.w) hm P _ (by rw [hsame.without, List.length_map]; exact hl)]
  have hq := h.q x hx
  by_cases hmem : x.dv ∈ c.map (fun j => (hAt (prefL hs) j).dv)
  ·
   obtain ⟨j, hj, e⟩ := List.mem_map.1 hmem
   have h1 := hcm j hj
   have h2 : hAt (prefL hs) j = x := nd_inj hH (hAt_mem h1.1) ((prefL_perm hs).mem_iff.2 hx) e
   have h3 := hrel.2 j h1.1.1 h1.1.2
   rw [h2] at h3
   have h4 : (c.map (fun j => (hAt (prefL hs) j).dv)).count x.dv = 1 := (List.Nodup.count hdn).trans (if_pos hmem)
   rw [h4]; omega
  ·
   rw [List.count_eq_zero_of_not_mem hmem]; omega

/-! ### the order of places -/
/-- a stands ahead of b. -/
def plLt (ws : List Wt) (a b : Pl) : Bool := decide (fdI ws a.st < fdI ws b.st ∨ fdI ws a.st = fdI ws b.st ∧ a.ix < b.ix)
theorem fdI_at : ∀ {ws : List Wt} (_ : (ws.map Wt.st).Nodup) {i : Nat} (hi : i < ws.length), fdI ws ws[i].st = (i : Int)
 | w :: ws, h, 0, _ => by
  unfold fdI
  rw [List.getElem_cons_zero, List.findIdx?_cons, decide_eq_true rfl]; rfl
 | w :: ws, h, i + 1, hi => by
  rw [List.map_cons, List.nodup_cons] at h
  have hi' : i < ws.length := by simpa using hi
  have ih := fdI_at h.2 hi'
  have hne : ¬ w.st = ws[i].st := fun e => h.1 (e ▸ List.mem_map_of_mem (List.getElem_mem _))
  unfold fdI at ih ⊢
  simp only [List.getElem_cons_succ, List.findIdx?_cons, hne, decide_false, Bool.false_eq_true, if_false]
  cases hf : ws.findIdx? (fun w => decide (w.st = ws[i].st)) with
  | none => rw [hf] at ih; simp at ih
  | some k => rw [hf] at ih; simp at ih ⊢; omega
theorem sorted_mem {ws : List Wt} {P : List Pl} (hn : namedB ws P = true) {p : Pl} : p ∈ sortedL ws P ↔ p ∈ P := by
 unfold sortedL
 simp only [List.mem_flatMap, List.mem_filter, decide_eq_true_eq]
 constructor
 ·
  rintro ⟨w, _, i, _, h, _⟩; exact h
 ·
  intro h
  have h1 := List.all_eq_true.1 hn p h
  unfold nameB at h1
  cases hw : wat ws p.st with
  | none => rw [hw] at h1; cases h1
  | some w =>
   rw [hw] at h1
   simp at h1
   have h2 := List.mem_of_find?_eq_some hw
   have h3 := List.find?_some hw
   simp at h3
   exact ⟨w, h2, p.ix, upI_mem.2 h1, h, h3.symm, rfl⟩
theorem sorted_pw {ws : List Wt} (hw : (ws.map Wt.st).Nodup) {P : List Pl} (hc : P.Pairwise (fun a b => clash a b = false)) : (sortedL ws P).Pairwise (fun a b => plLt ws a b = true) := by
 unfold sortedL
 rw [List.pairwise_flatMap]
 refine ⟨fun w hm => ?_, ?_⟩
 ·
  rw [List.pairwise_flatMap]
  refine ⟨fun i hi => ?_, ?_⟩
  ·
   refine (hc.filter _).imp_of_mem (fun {a b} ha hb hab => ?_)
   have h1 := (List.mem_filter.1 ha).2
   have h2 := (List.mem_filter.1 hb).2
   simp at h1 h2
   exfalso
   simp [clash, h1, h2] at hab
  ·
   refine (upI_pw w.to).imp (fun {i j} hij a ha b hb => ?_)
   have h1 := (List.mem_filter.1 ha).2
   have h2 := (List.mem_filter.1 hb).2
   simp at h1 h2
   simp [plLt, h1, h2, hij]
 ·
  rw [List.pairwise_iff_getElem]
  intro i j hi hj hij a ha b hb
  simp only [List.mem_flatMap, List.mem_filter, decide_eq_true_eq] at ha hb
  obtain ⟨_, _, _, ha, _⟩ := ha
  obtain ⟨_, _, _, hb, _⟩ := hb
  simp only [plLt, ha, hb, fdI_at hw, decide_eq_true_eq]
  omega
theorem plLt_irr (ws : List Wt) (a : Pl) : plLt ws a a = false := by simp [plLt]
/-- Sorted places that no two are alike: there is just one such list. -/
theorem sorted_one {ws : List Wt} {hs : List Hd} {P R : List Pl} (h : Ok ws hs P) (hp : R.Perm P) (hr : R.Pairwise (fun a b => plLt ws b a = false)) : R = sortedL ws P := by
 have hs1 := sorted_pw (wants_st h.w) h.c
 have hnd : (sortedL ws P).Nodup := hs1.imp (fun {a b} hab e => by subst e; rw [plLt_irr] at hab; cases hab)
 have hPn : P.Nodup := h.c.imp (fun {a b} hab e => by subst e; simp [clash] at hab)
 have hpm : R.Perm (sortedL ws P) := hp.trans ((List.perm_ext_iff_of_nodup hPn hnd).2 (fun p => (sorted_mem h.n).symm))
 refine List.Perm.eq_of_pairwise (le := fun a b => plLt ws b a = false) (fun a b ha hb h1 h2 => ?_) hr (hs1.imp (fun {a b} hab => ?_)) hpm
 ·
  -- both ways: one piece
  have ha' := hp.mem_iff.1 ha
  have hb' : b ∈ P := (sorted_mem h.n).1 hb
  simp [plLt] at h1 h2
  have e1 : fdI ws a.st = fdI ws b.st := by omega
  have e2 : a.ix = b.ix := by omega
  have e3 : a.st = b.st := by
   have na := List.all_eq_true.1 h.n a ha'
   have nb := List.all_eq_true.1 h.n b hb'
   unfold nameB at na nb
   cases wa : wat ws a.st with
   | none => rw [wa] at na; cases na
   | some x =>
    cases wb : wat ws b.st with
    | none => rw [wb] at nb; cases nb
    | some y =>
     have xa := List.mem_of_find?_eq_some wa
     have ya := List.mem_of_find?_eq_some wb
     have xs := List.find?_some wa
     have ys := List.find?_some wb
     simp at xs ys
     obtain ⟨i, hi, rfl⟩ := List.getElem_of_mem xa
     obtain ⟨j, hj, rfl⟩ := List.getElem_of_mem ya
     rw [← xs, ← ys, fdI_at (wants_st h.w) hi, fdI_at (wants_st h.w) hj] at e1
     have : i = j := by omega
     subst this
     rw [← xs, ← ys]
  refine Classical.byContradiction (fun hne => ?_)
  obtain ⟨i, hi, rfl⟩ := List.getElem_of_mem ha'
  obtain ⟨j, hj, rfl⟩ := List.getElem_of_mem hb'
  have hpw := List.pairwise_iff_getElem.1 h.c
  rcases Nat.lt_trichotomy i j with hij | hij | hij
  ·
   have := hpw i j hi hj hij
   simp [clash, e2, e3] at this
  ·
   subst hij; exact hne rfl
  ·
   have := hpw j i hj hi hij
   simp [clash, e2, e3] at this
 ·
  simp [plLt] at hab ⊢; omega
end Go.Proofs.YtklfficlegfhjaaGreat
/- Assign: what it finds is allowed, and no choices are better. -/
namespace Go.Proofs.YtklfficlegfhjaaGreat
open Go

theorem same_refl (P : List Pl) (s : List UInt8) : Same1 P P s := ⟨fun _ => rfl, fun _ => rfl⟩
/-- Choices, want by want, each out of those that are free where it is made. -/
def Seqs (ch : List Int → Wt → List (List Int)) : List Wt → List Int → List (List Int) → Prop
 | [], _, [] => True
 | w :: r, left, c :: cs => c ∈ ch left w ∧ Seqs ch r (takeL left c w.sz) cs
 | _, _, _ => False
/-- The search that runs to its end has seen all choices. -/
theorem pgo_all {σ : Type} {f : List Int → PS σ → Bool × PS σ} {K : List Int → PS σ → Prop} {T : PS σ → Prop} : ∀ (L : List (List Int)),
  (∀ c ∈ L, ∀ s, T s → (f c s).1 = true → K c (f c s).2 ∧ T (f c s).2) → (∀ d, ∀ c ∈ L, ∀ s, K d s → (f c s).1 = true → K d (f c s).2) → ∀ s, T s → (pgo f L s).1 = true →
  T (pgo f L s).2 ∧ (∀ c ∈ L, K c (pgo f L s).2) ∧ ∀ d, K d s → K d (pgo f L s).2
 | [], _, _, s, ht, _ => ⟨ht, (fun _ h => by cases h), fun _ h => h⟩
 | c :: L, h1, h2, s, ht, he => by
  rw [pgo] at he ⊢
  by_cases hf : (f c s).1 = true
  ·
   rw [if_pos hf] at he ⊢
   obtain ⟨h3, h4⟩ := h1 c (by simp) s ht hf
   obtain ⟨h5, h6, h7⟩ := pgo_all L (fun c hc => h1 c (by simp [hc])) (fun d c hc => h2 d c (by simp [hc])) _ h4 he
   exact ⟨h5, fun x hx => (List.mem_cons.1 hx).elim (fun e => e ▸ h7 c h3) (h6 x), fun d hd => h7 d (h2 d c (by simp) s hd hf)⟩
  ·
   rw [if_neg hf] at he; cases he
theorem seqs_len {ch : List Int → Wt → List (List Int)} : ∀ {r : List Wt} {left : List Int} {cs : List (List Int)}, Seqs ch r left cs → cs.length = r.length
 | [], _, [], _ => rfl
 | w :: r, left, c :: cs, h => by simp [seqs_len h.2]
theorem plook_all {σ : Type} {ch : List Int → Wt → List (List Int)} {fd : List (List Int) → σ → Bool × σ} {budget N : Nat} {T : σ → Prop} {D : List (List Int) → σ → Prop} (h0 : ∀ c x, c.length = N → T x → T (fd c x).2)
  (h1 : ∀ c x, c.length = N → T x → (fd c x).1 = true → D c (fd c x).2) (h2 : ∀ d c x, d.length = N → c.length = N → T x → D d x → (fd c x).1 = true → D d (fd c x).2) : ∀ (r : List Wt) (cs : List (List Int)) (left : List Int) (s : PS σ),
  cs.length + r.length = N → T s.x → (plook ch fd budget r cs left s).1 = true → T (plook ch fd budget r cs left s).2.x ∧ (∀ cs', Seqs ch r left cs' → D (cs ++ cs') (plook ch fd budget r cs left s).2.x) ∧ ∀ d, d.length = N → D d s.x → D d (plook ch fd budget r cs left s).2.x
 | [], cs, left, s, hN, hT, he => by
  unfold plook at he ⊢
  by_cases hb : budget < s.n + 1
  ·
   simp only [hb, if_true] at he; cases he
  ·
   simp only [hb, if_false] at he ⊢
   have hN' : cs.length = N := by simpa using hN
   refine ⟨h0 cs s.x hN' hT, fun cs' hs' => ?_, fun d hd hD => h2 d cs s.x hd hN' hT hD he⟩
   cases cs' with
   | nil => rw [List.append_nil]; exact h1 cs s.x hN' hT he
   | cons c cs' => exact hs'.elim
 | w :: r, cs, left, s, hN, hT, he => by
  unfold plook at he ⊢
  by_cases hb : budget < s.n + 1
  ·
   simp only [hb, if_true] at he; cases he
  ·
   simp only [hb, if_false] at he ⊢
   have := pgo_all (K := fun c s' => T s'.x ∧ ∀ cs', Seqs ch r (takeL left c w.sz) cs' → D (cs ++ c :: cs') s'.x) (T := fun s' => T s'.x ∧ ∀ d, d.length = N → D d s.x → D d s'.x) (ch left w)
    (fun c hc s1 ht hf => by
     obtain ⟨h2', h3, h4⟩ := plook_all h0 h1 h2 r (cs ++ [c]) (takeL left c w.sz) s1 (by simp at hN ⊢; omega) ht.1 hf
     exact ⟨⟨h2', fun cs' hs' => by simpa using h3 cs' hs'⟩, h2', fun d hd hD => h4 d hd (ht.2 d hd hD)⟩)
    (fun d c hc s1 hd hf => by
     obtain ⟨h2', _, h4⟩ := plook_all h0 h1 h2 r (cs ++ [c]) (takeL left c w.sz) s1 (by simp at hN ⊢; omega) hd.1 hf
     refine ⟨h2', fun cs' hs' => h4 _ ?_ (hd.2 cs' hs')⟩
     have := seqs_len hs'
     simp at hN ⊢; omega)
    ⟨s.n + 1, s.wi, s.x⟩ ⟨hT, fun d _ h => h⟩ he
   obtain ⟨h5, h6, _⟩ := this
   refine ⟨h5.1, fun cs' hs' => ?_, h5.2⟩
   cases cs' with
   | nil => exact hs'.elim
   | cons c cs' => exact (h6 c hs'.1).2 cs' hs'.2

theorem greater_irr : ∀ l : List Int, greaterB l l = false
 | [] => rfl
 | a :: l => by rw [greaterB, if_pos rfl, greater_irr l]
theorem greater_trans : ∀ {a b c : List Int}, a.length = b.length → b.length = c.length → greaterB a b = false → greaterB c b = true → greaterB a c = false
 | [], [], [], _, _, _, h => by cases h
 | x :: a, y :: b, z :: c, h1, h2, hab, hcb => by
  rw [greaterB] at hab hcb ⊢
  by_cases e1 : x = y
  ·
   rw [if_pos e1] at hab
   by_cases e2 : z = y
   ·
    rw [if_pos e2] at hcb
    rw [if_pos (by omega)]
    exact greater_trans (by simpa using h1) (by simpa using h2) hab hcb
   ·
    rw [if_neg e2] at hcb
    simp at hcb
    rw [if_neg (by omega)]; simp; omega
  ·
   rw [if_neg e1] at hab
   simp at hab
   by_cases e2 : z = y
   ·
    rw [if_neg (by omega)]; simp; omega
   ·
    rw [if_neg e2] at hcb
    simp at hcb
    rw [if_neg (by omega)]; simp; omega
theorem insI_len (x : Int) : ∀ l, (insI x l).length = l.length + 1
 | [] => rfl
 | y :: l => by unfold insI; split <;> simp [insI_len x l]
theorem foldl_ins_len {α : Type} (f : α → Int) : ∀ (l : List α) (a : List Int), (l.foldl (fun out x => insI (f x) out) a).length = a.length + l.length
 | [], a => rfl
 | x :: l, a => by rw [List.foldl_cons, foldl_ins_len f l, insI_len, List.length_cons]; omega
theorem surpP_len (ps : List Pl) (wc : List (Wt × List Int)) : (surpP ps wc).length = wc.length := by
 unfold surpP
 rw [foldl_ins_len (fun x : Wt × List Int => x.1.to - ((withoutL x.1 ps).length : Int) + (x.2.length : Int) - x.1.da)]; simp
/-- Assign's search: in the end (if it is not over budget) it has the best choices; they are allowed. -/
structure FoundA (ws : List Wt) (hs : List Hd) (ps : List Pl) (cs : List (List Int)) : Prop where
 len : cs.length = ws.length
 okc : OkC (prefL hs) ps (ws.zip cs)
 ok : Ok ws hs (plcs (prefL hs) ps (ws.zip cs))
 best : ∀ cs', Seqs (choP (prefL hs) ps none) ws (left0 ws hs ps) cs' → greaterB (surpP ps (ws.zip cs')) (surpP ps (ws.zip cs)) = false
/-- There are always choices: none at all. -/
theorem seqs_none (H : List Hd) (ps : List Pl) : ∀ (r : List Wt) (left : List Int), Seqs (choP H ps none) r left (r.map (fun _ => []))
 | [], _ => trivial
 | w :: r, left => by
  refine ⟨?_, seqs_none H ps r _⟩
  unfold choP
  have hz : ¬ min ((freeP H ps left w).length : Int) ((withoutL w ps).length : Int) < 0 := by omega
  simp only [sizesP, choL, hz, if_false]
  rw [List.mem_flatMap]
  refine ⟨0, ?_, by cases freeP H ps left w <;> simp [combos]⟩
  generalize (min ((freeP H ps left w).length : Int) ((withoutL w ps).length : Int)).toNat = m
  show 0 ∈ downN 0 m
  induction m with
  | zero => simp [downN]
  | succ m ih => rw [downN, if_pos (by omega)]; exact List.mem_cons_of_mem _ ih
theorem find_ok {ws : List Wt} {hs : List Hd} {ps : List Pl} (h : Ok ws hs ps) {budget : Nat} (hwi : (findA ws hs ps budget).1 = true) :
  ∃ cs, (findA ws hs ps budget).2 = some cs ∧ FoundA ws hs ps cs ∧ (plook (choP (prefL hs) ps none) (fdA ws ps) budget ws [] (left0 ws hs ps) ⟨0, true, none⟩).1 = true := by
 have hin := fun (w : Wt) (hm : w ∈ ws) => named_in h.w h.n hm
 have hsim := look_sim (σ := Option (List (List Int))) (ws := ws) (hs := hs) (ps := ps) (ex := none) (first := false) (budget := budget)
  (X := fun b f _ => (b = none ∧ f = false) ∨ ∃ cs, b = some cs ∧ f = true ∧ cs.length = ws.length ∧ OkC (prefL hs) ps (ws.zip cs) ∧ Ok ws hs (plcs (prefL hs) ps (ws.zip cs))) (fd := fdA ws ps) (V := Ok ws hs)
  (fun w hm left P c hP hrel hsame hc => hP.add hm hrel hsame (cho_mem hc).1 (cho_mem hc).2)
  (holders_dv h.h) (wants_st h.w) (fun w hm c hc => hc) (fun w hm y e => by cases e)
  (fun cs y f best hl hok hV hX _ => by
   rcases hX with ⟨rfl, rfl⟩ | ⟨b, rfl, rfl, hbl, hbok, hbV⟩
   ·
    exact ⟨.inr ⟨cs, rfl, rfl, hl, hok, hV⟩, rfl⟩
   ·
    refine ⟨?_, by simp only [fdA]; rfl⟩
    simp only [Bool.not_true, Bool.not_false, Bool.true_and, Bool.false_or, fdA]
    right
    split
    ·
     exact ⟨cs, rfl, by split <;> rfl, hl, hok, hV⟩
    ·
     exact ⟨b, rfl, by split <;> rfl, hbl, hbok, hbV⟩)
  ws [] [] (left0 ws hs ps) ⟨0, true, none⟩ ⟨0, false, []⟩ rfl rfl (fun x hx => by cases hx) h (left0_rel ws hs ps) (fun _ _ => same_refl _ _) ⟨rfl, by simp, .inl ⟨rfl, rfl⟩⟩ (by simp [RS.stop])
 obtain ⟨h1, h2, h3, h4⟩ := hsim
 have e : plcs (prefL hs) ps (([] : List Wt).zip ([] : List (List Int))) = ps := rfl
 rw [e] at h1 h2 h3 h4
 have hw : (plook (choP (prefL hs) ps none) (fdA ws ps) budget ws [] (left0 ws hs ps) ⟨0, true, none⟩).2.wi = true := hwi
 rw [hw] at h3
 have hle := of_decide_eq_true h3.symm
 have hmore : (plook (choP (prefL hs) ps none) (fdA ws ps) budget ws [] (left0 ws hs ps) ⟨0, true, none⟩).1 = true := by
  rw [h1]; simp [RS.stop]; omega
 have hall := (plook_all (N := ws.length) (T := fun b => ∀ b', b = some b' → b'.length = ws.length) (D := fun c b => ∃ b', b = some b' ∧ greaterB (surpP ps (ws.zip c)) (surpP ps (ws.zip b')) = false) (fd := fdA ws ps) (ch := choP (prefL hs) ps none) (budget := budget)
  (fun c b hl hT b' e => by
   cases b with
   | none => simp only [fdA] at e; injection e with e; subst e; exact hl
   | some b =>
    simp only [fdA] at e
    split at e
    ·
     injection e with e; subst e; exact hl
    ·
     injection e with e; subst e; exact hT _ rfl)
  (fun c b hl hT _ => by
   cases b with
   | none => exact ⟨c, rfl, greater_irr _⟩
   | some b =>
    simp only [fdA]
    by_cases hg : greaterB (surpP ps (ws.zip c)) (surpP ps (ws.zip b)) = true
    ·
     exact ⟨c, by rw [if_pos hg], greater_irr _⟩
    ·
     exact ⟨b, by rw [if_neg hg], by simpa using hg⟩)
  (fun d c b hdl hcl hT hD _ => by
   obtain ⟨b', rfl, hg⟩ := hD
   have hbl := hT _ rfl
   simp only [fdA]
   by_cases hg2 : greaterB (surpP ps (ws.zip c)) (surpP ps (ws.zip b')) = true
   ·
    rw [if_pos hg2]
    exact ⟨c, rfl, greater_trans (by simp [surpP_len]; omega) (by simp [surpP_len]; omega) hg hg2⟩
   ·
    rw [if_neg hg2]
    exact ⟨b', rfl, hg⟩)
  ws [] (left0 ws hs ps) ⟨0, true, none⟩ (by simp) (fun _ e => by cases e) hmore).2.1
 obtain ⟨b, hb, _⟩ := hall _ (seqs_none (prefL hs) ps ws (left0 ws hs ps))
 have hb' : (findA ws hs ps budget).2 = some b := hb
 refine ⟨b, hb', ?_, hmore⟩
 rcases h4 with ⟨h5, _⟩ | ⟨cs, h5, _, h6, h7, h8⟩
 ·
  rw [hb] at h5; cases h5
 ·
  rw [hb] at h5
  injection h5 with h5
  subst h5
  refine ⟨h6, h7, h8, fun cs' hs' => ?_⟩
  obtain ⟨b', e1, hg⟩ := hall cs' hs'
  rw [hb] at e1
  injection e1 with e1
  subst e1
  simpa using hg
end Go.Proofs.YtklfficlegfhjaaGreat
/- Best and Agrees plainly: no allowed places are better than what Assign finds; Possible says whether Assign finds so much. -/
namespace Go.Proofs.YtklfficlegfhjaaGreat
open Go Gf

/-! ### the least surplus is the first of the surpluses -/
/-! ### choices out of more places -/
end Go.Proofs.YtklfficlegfhjaaGreat
/- Agrees plainly: Possible says whether Assign finds so much. -/
namespace Go.Proofs.YtklfficlegfhjaaGreat
open Go Gf

theorem ok_nil {ws : List Wt} {hs : List Hd} (hw : wantsB ws = true) (hh : holdersB hs = true) : Ok ws hs [] := by
 refine ⟨hw, hh, rfl, (fun p hp => by cases hp), List.Pairwise.nil, fun h hm => ?_⟩
 unfold holdersB at hh
 simp only [Bool.and_eq_true, List.all_eq_true] at hh
 have := hh.1.2 h hm
 simp [hdB] at this
 show (0 : Int) ≤ h.qt
 omega
theorem without_nil (w : Wt) : withoutL w [] = upI w.to := List.filter_eq_self.2 (fun _ _ => rfl)
end Go.Proofs.YtklfficlegfhjaaGreat
/- Plain facts for the walks of chapter 34: insertions, the one sorted list, the places behind choices, quotas. -/
namespace Go.Proofs.YtklfficlegfhjaaGreat
open Go Gf

theorem insH_at {h : Hd} : ∀ {l : List Hd} {k : Nat}, k ≤ l.length → (∀ x ∈ l.take k, pref h x = false) → (∀ x, l[k]? = some x → pref h x = true) → insH h l = l.take k ++ h :: l.drop k
 | [], k, hk, _, _ => by simp [insH]
 | x :: l, 0, _, _, h2 => by
  have := h2 x rfl
  simp [insH, this]
 | x :: l, k + 1, hk, h1, h2 => by
  have e := h1 x (by simp)
  unfold insH
  rw [if_neg (by rw [e]; decide), insH_at (by simpa using hk) (fun y hy => h1 y (by simp [hy])) (fun y hy => h2 y (by simpa using hy))]
  simp
theorem insI_at {z : Int} : ∀ {l : List Int} {k : Nat}, k ≤ l.length → (∀ x ∈ l.take k, x ≤ z) → (∀ x, l[k]? = some x → z < x) → insI z l = l.take k ++ z :: l.drop k
 | [], k, hk, _, _ => by simp [insI]
 | x :: l, 0, _, _, h2 => by
  have := h2 x rfl
  simp [insI, this]
 | x :: l, k + 1, hk, h1, h2 => by
  have e := h1 x (by simp)
  unfold insI
  rw [if_neg (by omega), insI_at (by simpa using hk) (fun y hy => h1 y (by simp [hy])) (fun y hy => h2 y (by simpa using hy))]
  simp
/-- In the order of preference. -/
def SortH (l : List Hd) : Prop := l.Pairwise (fun a b => pref b a = false)
theorem pref_ff {a b : Hd} : pref b a = false ↔ b.wt < a.wt ∨ (b.wt = a.wt ∧ a.dv ≤ b.dv) := by
 unfold pref
 rw [decide_eq_false_iff_not]; omega
theorem pref_tt {a b : Hd} : pref a b = true ↔ b.wt < a.wt ∨ a.wt = b.wt ∧ a.dv < b.dv := by
 unfold pref
 rw [decide_eq_true_eq]
theorem insH_mem {h x : Hd} {l : List Hd} : x ∈ insH h l ↔ x = h ∨ x ∈ l := by
 rw [(pref_dv h l).mem_iff, List.mem_cons]
theorem insH_sort {h : Hd} : ∀ {l : List Hd}, SortH l → SortH (insH h l)
 | [], _ => List.pairwise_singleton _ _
 | x :: l, hs => by
  unfold SortH at hs
  rw [List.pairwise_cons] at hs
  unfold insH
  by_cases e : pref h x = true
  ·
   rw [if_pos e]
   refine List.pairwise_cons.2 ⟨fun y hy => ?_, List.pairwise_cons.2 hs⟩
   rw [pref_tt] at e
   rw [pref_ff]
   rcases List.mem_cons.1 hy with rfl | hy
   ·
    omega
   ·
    have := pref_ff.1 (hs.1 y hy); omega
  ·
   rw [if_neg e]
   refine List.pairwise_cons.2 ⟨fun y hy => ?_, insH_sort hs.2⟩
   rcases insH_mem.1 hy with rfl | hy
   ·
    simpa using e
   ·
    exact hs.1 y hy
theorem prefL_sort (hs : List Hd) : SortH (prefL hs) := by
 unfold prefL
 suffices h : ∀ (l out : List Hd), SortH out → SortH (l.foldl (fun out h => insH h out) out) from h hs [] List.Pairwise.nil
 intro l
 induction l with
 | nil => intro out h; exact h
 | cons x l ih => intro out h; exact ih _ (insH_sort h)
theorem prefL_snoc (hs : List Hd) (h : Hd) : prefL (hs ++ [h]) = insH h (prefL hs) := by
 unfold prefL
 rw [List.foldl_append]; rfl
theorem pref_one {hs R : List Hd} (hn : (hs.map Hd.dv).Nodup) (hp : R.Perm hs) (hr : SortH R) : R = prefL hs := by
 refine List.Perm.eq_of_pairwise (le := fun a b => pref b a = false) (fun a b ha hb h1 h2 => ?_) hr (prefL_sort hs) (hp.trans (prefL_perm hs).symm)
 rw [pref_ff] at h1 h2
 exact nd_inj hn (hp.mem_iff.1 ha) ((prefL_perm hs).mem_iff.1 hb) (by omega)
theorem insI_perm (z : Int) : ∀ l : List Int, (insI z l).Perm (z :: l)
 | [] => List.Perm.refl _
 | x :: xs => by
  unfold insI
  split
  ·
   exact List.Perm.refl _
  ·
   exact ((insI_perm z xs).cons x).trans (List.Perm.swap _ _ _)
theorem insI_sort {z : Int} : ∀ {l : List Int}, l.Pairwise (· ≤ ·) → (insI z l).Pairwise (· ≤ ·)
 | [], _ => List.pairwise_singleton _ _
 | x :: l, hs => by
  rw [List.pairwise_cons] at hs
  unfold insI
  by_cases e : z < x
  ·
   rw [if_pos e]
   refine List.pairwise_cons.2 ⟨fun y hy => ?_, List.pairwise_cons.2 hs⟩
   rcases List.mem_cons.1 hy with rfl | hy
   ·
    omega
   ·
    have := hs.1 y hy; omega
  ·
   rw [if_neg e]
   refine List.pairwise_cons.2 ⟨fun y hy => ?_, insI_sort hs.2⟩
   rcases List.mem_cons.1 ((insI_perm z l).mem_iff.1 hy) with rfl | hy
   ·
    omega
   ·
    exact hs.1 y hy
def sortI (l : List Int) : List Int := l.foldl (fun o x => insI x o) []
theorem sortI_both (l : List Int) : (sortI l).Perm l ∧ (sortI l).Pairwise (· ≤ ·) := by
 unfold sortI
 suffices h : ∀ (l out : List Int), out.Pairwise (· ≤ ·) → (l.foldl (fun o x => insI x o) out).Perm (out ++ l) ∧ (l.foldl (fun o x => insI x o) out).Pairwise (· ≤ ·) from by simpa using h l [] List.Pairwise.nil
 intro l
 induction l with
 | nil => intro out h; simpa using h
 | cons x l ih =>
  intro out h
  rw [List.foldl_cons]
  obtain ⟨h1, h2⟩ := ih _ (insI_sort (z := x) h)
  exact ⟨h1.trans (((insI_perm x out).append_right l).trans List.perm_middle.symm), h2⟩
theorem sortI_one {l R : List Int} (hp : R.Perm l) (hr : R.Pairwise (· ≤ ·)) : R = sortI l :=
 List.Perm.eq_of_pairwise (le := (· ≤ ·)) (fun a b _ _ h1 h2 => by omega) hr (sortI_both l).2 (hp.trans (sortI_both l).1.symm)
theorem surp_sort (ps : List Pl) (wc : List (Wt × List Int)) : surpP ps wc = sortI (wc.map (fun x => x.1.to - ((withoutL x.1 ps).length : Int) + (x.2.length : Int) - x.1.da)) := by
 unfold surpP sortI
 rw [List.foldl_map]
theorem surpl_sort (ws : List Wt) (P : List Pl) : surplL ws P = sortI (ws.map (fun w => spreadI w.st P - w.da)) := by
 unfold surplL sortI
 rw [List.foldl_map]

/-! ### the places behind choices -/
def addOf (H : List Hd) (ps : List Pl) (x : Wt × List Int) : List Pl := ((withoutL x.1 ps).zip (x.2.map (fun j => (hAt H j).dv))).map (fun y => ⟨x.1.st, y.1, y.2⟩)
theorem plcs_flat {H : List Hd} : ∀ {wc : List (Wt × List Int)} {P : List Pl} {ps : List Pl}, (wc.map (fun x => x.1.st)).Nodup → (∀ x ∈ wc, Same1 ps P x.1.st) → plcs H P wc = P ++ wc.flatMap (addOf H ps)
 | [], P, ps, _, _ => by simp [plcs]
 | x :: wc, P, ps, hn, hs => by
  rw [List.map_cons, List.nodup_cons] at hn
  have e : plcs H P (x :: wc) = plcs H (addL x.1 P (x.2.map (fun j => (hAt H j).dv))) wc := rfl
  rw [e, plcs_flat (ps := ps) hn.2 (fun y hy => (hs y (by simp [hy])).add (fun e => hn.1 (e ▸ List.mem_map_of_mem (f := fun z : Wt × List Int => z.1.st) hy)) _), List.flatMap_cons]
  unfold addL
  rw [(hs x (by simp)).without, List.append_assoc]; rfl
theorem add_nil (w : Wt) (P : List Pl) : addL w P [] = P := by simp [addL]

/-! ### quotas -/
theorem sz_nonneg {ws : List Wt} (hw : wantsB ws = true) (s : List UInt8) : 0 ≤ szOf ws s ∧ szOf ws s ≤ 65536 := by
 unfold szOf
 cases h : wat ws s with
 | none => exact ⟨Int.le_refl _, by decide⟩
 | some w => have := wants_all hw (List.mem_of_find?_eq_some h); show 0 ≤ w.sz ∧ w.sz ≤ 65536; omega
theorem used_le {ws : List Wt} (hw : wantsB ws = true) (d : Int) : ∀ P : List Pl, 0 ≤ usedI ws P d ∧ usedI ws P d ≤ 65536 * (P.length : Int)
 | [] => ⟨Int.le_refl _, by show (0 : Int) ≤ _; simp⟩
 | p :: P => by
  have h1 := used_le hw d P
  have h2 := sz_nonneg hw p.st
  rw [used_cons, List.length_cons]
  split <;> omega
theorem used_snoc (ws : List Wt) (P : List Pl) (p : Pl) (d : Int) : usedI ws (P ++ [p]) d = usedI ws P d + (if p.dv = d then szOf ws p.st else 0) := by
 rw [used_app, used_cons]
 rw [show usedI ws [] d = 0 from rfl, Int.add_zero]
/-- The first place at which a device is over its quota. -/
theorem full_step {ws : List Wt} (hw : wantsB ws = true) {hs : List Hd} {P : List Pl} {k : Nat} {p : Pl} {h : Hd} (hm : h ∈ hs) (hd : h.dv = p.dv) (hf : h.qt < usedI ws (P.take (k + 1)) p.dv) : hs.any (fun h => decide (h.qt < usedI ws P h.dv)) = true := by
 refine List.any_eq_true.2 ⟨h, hm, ?_⟩
 rw [decide_eq_true_eq]
 have h1 := used_app ws (P.take (k + 1)) (P.drop (k + 1)) p.dv
 rw [List.take_append_drop] at h1
 have h2 := used_le hw p.dv (P.drop (k + 1))
 rw [hd]; omega
theorem full_keep {ws : List Wt} {hs : List Hd} (hn : (hs.map Hd.dv).Nodup) {P : List Pl} {k : Nat} {p : Pl} (hk : P[k]? = some p) {h : Hd} (hm : h ∈ hs) (hd : h.dv = p.dv) (hf : ¬ h.qt < usedI ws (P.take (k + 1)) p.dv)
  (hall : ∀ x ∈ hs, usedI ws (P.take k) x.dv ≤ x.qt) : ∀ x ∈ hs, usedI ws (P.take (k + 1)) x.dv ≤ x.qt := by
 intro x hx
 have e : P.take (k + 1) = P.take k ++ [p] := by rw [List.take_add_one, hk]; rfl
 by_cases hd2 : x.dv = p.dv
 ·
  have : x = h := nd_inj hn hx hm (hd2.trans hd.symm)
  subst this
  rw [hd]; omega
 ·
  rw [e, used_snoc, if_neg (fun e => hd2 e.symm)]
  have := hall x hx
  omega
end Go.Proofs.YtklfficlegfhjaaGreat
/- Assign and One plainly: what the reference's search finds is what the program's finds. -/
namespace Go.Proofs.YtklfficlegfhjaaGreat
open Go Gf

def budB (b : Int) : Bool := decide (1 ≤ b) && decide (b ≤ 1048576)
/-- What Assign answers. -/
def foundV (ws : List Wt) (hs : List Hd) (ps : List Pl) : Bool × Option (List (List Int)) → List Pl × Int
 | (true, some cs) => (sortedL ws (plcs (prefL hs) ps (ws.zip cs)), 0)
 | _ => ([], 11)
def assignV (ws : List Wt) (hs : List Hd) (ps : List Pl) (budget : Int) : List Pl × Int :=
 if checkE ws hs ps ≠ 0 then ([], checkE ws hs ps) else if budB budget = false then ([], 1) else foundV ws hs ps (findA ws hs ps budget.toNat)
theorem assign_sim {ws : List Wt} {hs : List Hd} {ps : List Pl} (h : Ok ws hs ps) (budget : Nat) : assignR ws hs ps budget = foundV ws hs ps (findA ws hs ps budget) := by
 have hin := fun (w : Wt) (hm : w ∈ ws) => named_in h.w h.n hm
 have hsim := look_sim (σ := Option (List (List Int))) (ws := ws) (hs := hs) (ps := ps) (ex := none) (first := false) (budget := budget)
  (X := fun b f best => (b = none ∧ f = false) ∨ ∃ cs, b = some cs ∧ f = true ∧ cs.length = ws.length ∧ OkC (prefL hs) ps (ws.zip cs) ∧ best = plcs (prefL hs) ps (ws.zip cs)) (fd := fdA ws ps) (V := fun _ => True)
  (fun _ _ _ _ _ _ _ _ _ => trivial)
  (holders_dv h.h) (wants_st h.w) (fun w hm c hc => hc) (fun w hm y e => by cases e)
  (fun cs y f best hl hok _ hX _ => by
   rcases hX with ⟨rfl, rfl⟩ | ⟨b, rfl, rfl, hbl, hbok, rfl⟩
   ·
    exact ⟨.inr ⟨cs, rfl, rfl, hl, hok, rfl⟩, rfl⟩
   ·
    have e1 := surpl_eq (wants_st h.w) hin hl hok
    have e2 := surpl_eq (wants_st h.w) hin hbl hbok
    cases hg : greaterB (surpP ps (ws.zip cs)) (surpP ps (ws.zip b)) with
    | true =>
     simp only [Bool.not_true, Bool.not_false, Bool.true_and, Bool.false_or, fdA, e1, e2, hg, if_true]
     exact ⟨.inr ⟨cs, rfl, trivial, hl, hok, rfl⟩, rfl⟩
    | false =>
     simp only [Bool.not_true, Bool.not_false, Bool.true_and, Bool.false_or, fdA, e1, e2, hg, if_false, Bool.false_eq_true]
     exact ⟨.inr ⟨b, rfl, trivial, hbl, hbok, rfl⟩, rfl⟩)
  ws [] [] (left0 ws hs ps) ⟨0, true, none⟩ ⟨0, false, []⟩ rfl rfl (fun x hx => by cases hx) trivial (left0_rel ws hs ps) (fun _ _ => same_refl _ _) ⟨rfl, by simp, .inl ⟨rfl, rfl⟩⟩ (by simp [RS.stop])
 obtain ⟨_, h2, h3, h4⟩ := hsim
 have e : plcs (prefL hs) ps (([] : List Wt).zip ([] : List (List Int))) = ps := rfl
 rw [e] at h2 h3 h4
 have hfo := find_ok h (budget := budget)
 unfold findA at hfo ⊢
 unfold assignR
 simp only [h3] at hfo ⊢
 generalize rlook ws hs none false budget ws ps ⟨0, false, []⟩ = s at *
 by_cases hb : budget < s.n
 ·
  rw [if_pos hb, show decide (s.n ≤ budget) = false from decide_eq_false (by omega)]; rfl
 ·
  rw [if_neg hb, show decide (s.n ≤ budget) = true from decide_eq_true (by omega)]
  obtain ⟨cs, h5, _⟩ := hfo (decide_eq_true (by omega))
  rcases h4 with ⟨h6, _⟩ | ⟨cs', h6, _, _, _, h7⟩
  ·
   rw [h5] at h6; cases h6
  ·
   rw [h6, h7]; rfl
theorem find_none {ws : List Wt} {hs : List Hd} {ps : List Pl} (h : Ok ws hs ps) (budget : Nat) : (findA ws hs ps budget).1 = true → ∃ cs, (findA ws hs ps budget).2 = some cs ∧ FoundA ws hs ps cs := fun h1 =>
 let ⟨cs, h2, h3, _⟩ := find_ok h h1; ⟨cs, h2, h3⟩

/-! ### One -/
theorem plcs_none (H : List Hd) : ∀ (ws : List Wt) (P : List Pl), plcs H P (ws.zip (List.replicate ws.length [])) = P
 | [], P => rfl
 | w :: ws, P => by
  rw [List.length_cons, List.replicate_succ, List.zip_cons_cons]
  have e : plcs H P ((w, []) :: ws.zip (List.replicate ws.length [])) = plcs H (addL w P []) (ws.zip (List.replicate ws.length [])) := rfl
  rw [e, plcs_none H ws, add_nil]
theorem plcs_one (H : List Hd) (c : List Int) : ∀ (ws : List Wt) (i : Nat) (w : Wt) (P : List Pl), ws[i]? = some w → plcs H P (ws.zip ((List.replicate ws.length []).set i c)) = addL w P (c.map (fun j => (hAt H j).dv))
 | [], i, w, P, h => by simp at h
 | v :: ws, 0, w, P, h => by
  have : v = w := by simpa using h
  subst this
  rw [List.length_cons, List.replicate_succ, List.set_cons_zero, List.zip_cons_cons]
  have e : plcs H P ((v, c) :: ws.zip (List.replicate ws.length [])) = plcs H (addL v P (c.map (fun j => (hAt H j).dv))) (ws.zip (List.replicate ws.length [])) := rfl
  rw [e, plcs_none H ws]
 | v :: ws, i + 1, w, P, h => by
  rw [List.length_cons, List.replicate_succ, List.set_cons_succ, List.zip_cons_cons]
  have e : plcs H P ((v, []) :: ws.zip ((List.replicate ws.length []).set i c)) = plcs H (addL v P []) (ws.zip ((List.replicate ws.length []).set i c)) := rfl
  rw [e, add_nil, plcs_one H c ws i w P (by simpa using h)]
/-- What One answers. -/
def oneV (ws : List Wt) (hs : List Hd) (ps : List Pl) (s : List UInt8) : List Pl × Int :=
 if checkE ws hs ps ≠ 0 then ([], checkE ws hs ps) else match wat ws s with
  | none => ([], 4)
  | some w => (sortedL ws (addL w ps ((freeL ws hs ps w).take (min (freeL ws hs ps w).length (withoutL w ps).length))), 0)
theorem one_ok {ws : List Wt} {hs : List Hd} {ps : List Pl} (h : Ok ws hs ps) {w : Wt} (hm : w ∈ ws) {k : Nat} (hk : k ≤ (withoutL w ps).length) : Ok ws hs (addL w ps (((freeP (prefL hs) ps (left0 ws hs ps) w).take k).map (fun j => (hAt (prefL hs) j).dv))) :=
 h.add hm (left0_rel ws hs ps) (same_refl _ _) (List.take_sublist _ _) (by rw [List.length_take]; omega)
theorem free_take {ws : List Wt} {hs : List Hd} {ps : List Pl} {w : Wt} (k : Nat) : (freeL ws hs ps w).take k = ((freeP (prefL hs) ps (left0 ws hs ps) w).take k).map (fun j => (hAt (prefL hs) j).dv) := by
 rw [free_eq (left0_rel ws hs ps) (same_refl _ _), List.map_take]

/-! ### what stays of allowed places under a change of order -/
theorem used_perm {ws : List Wt} {P Q : List Pl} (h : P.Perm Q) (d : Int) : usedI ws P d = usedI ws Q d := by
 induction h with
 | nil => rfl
 | cons x _ ih => rw [used_cons, used_cons, ih]
 | swap x y l => rw [used_cons, used_cons, used_cons, used_cons]; omega
 | trans _ _ h1 h2 => exact h1.trans h2
theorem clash_sym (a b : Pl) : clash a b = clash b a := by
 unfold clash
 exact decide_eq_decide.2 ⟨fun ⟨h1, h2⟩ => ⟨h1.symm, h2.imp Eq.symm Eq.symm⟩, fun ⟨h1, h2⟩ => ⟨h1.symm, h2.imp Eq.symm Eq.symm⟩⟩
theorem Ok.perm {ws : List Wt} {hs : List Hd} {P Q : List Pl} (h : Ok ws hs P) (hp : Q.Perm P) : Ok ws hs Q := by
 refine ⟨h.w, h.h, List.all_eq_true.2 (fun p hm => List.all_eq_true.1 h.n p (hp.mem_iff.1 hm)), fun p hm => h.d p (hp.mem_iff.1 hm), ?_, fun x hx => by rw [used_perm hp]; exact h.q x hx⟩
 exact (hp.pairwise_iff (fun {a b} hab => by rw [clash_sym]; exact hab)).2 h.c
theorem sorted_perm {ws : List Wt} {hs : List Hd} {P : List Pl} (h : Ok ws hs P) : (sortedL ws P).Perm P := by
 have hs1 := sorted_pw (wants_st h.w) h.c
 have hnd : (sortedL ws P).Nodup := hs1.imp (fun {a b} hab e => by subst e; rw [plLt_irr] at hab; cases hab)
 have hPn : P.Nodup := h.c.imp (fun {a b} hab e => by subst e; simp [clash] at hab)
 exact (List.perm_ext_iff_of_nodup hnd hPn).2 (fun p => sorted_mem h.n)
theorem Ok.sorted {ws : List Wt} {hs : List Hd} {P : List Pl} (h : Ok ws hs P) : Ok ws hs (sortedL ws P) := h.perm (sorted_perm h)
end Go.Proofs.YtklfficlegfhjaaGreat
