/- Several texts in one: Mg, Sha, Rot, Sha2. -/
import Derived.Test.YtfcakjpljjnjnaaGreatDoorC2
import Derived.Laws.BitsAllLaws
import Derived.Laws.BitsLemmas
import Derived.KernelRfl
import Derived.Test.YtfcakjpljjnjnaaGreatDoorC1
import Derived.Test.YtfcakjpljjnjnaaGreatDoorChecked
import Derived.WalkKit
import Derived.WalkLawsBesides
import Derived.WalkSpells
import Derived.Lib.Hide
/- Maps of the call's own read as functions that are total (the zero value where there is no entry); delete; m[k] += x. For any program. -/
namespace Go.Proofs.YtfcakjpljjnjnaaGreatDoor
open Go Go.RowKit Go.ChangeMaps Go.MapKept Gf
open Go.Maps (Keyed)

/-- The list behind a delete. -/
inductive Dropped (L : List (Value × Value)) (x : Value) : List (Value × Value) → Prop
 | no (h : ∀ p ∈ L, p.1 ≠ x) : Dropped L x L
 | yes (i : Nat) (u : Value) (h : L[i]? = some (x, u)) : Dropped L x (L.eraseIdx i)
theorem map_eraseIdx' {α β : Type} (f : α → β) : ∀ (l : List α) (i : Nat), (l.eraseIdx i).map f = (l.map f).eraseIdx i
 | [], i => by simp
 | a :: l, 0 => by simp
 | a :: l, i + 1 => by simp [map_eraseIdx' f l i]
theorem stamped_erase' {es : Array MapEntry} {clock : Nat} (h : Stamped es clock) (j : Nat) : Stamped (es.eraseIdxIfInBounds j) clock := by
 by_cases hj : j < es.size
 ·
  have hsub : (es.eraseIdxIfInBounds j).toList = es.toList.eraseIdx j := by
   unfold Array.eraseIdxIfInBounds
   rw [dif_pos hj]
   simp
  obtain ⟨h1, h2, h3⟩ := h
  refine ⟨fun x hx => ?_, ?_, ?_⟩
  ·
   exact h1 x (by rw [hsub] at hx; exact (List.eraseIdx_sublist _ _).subset hx)
  ·
   rw [hsub, map_eraseIdx']; exact h2.sublist (List.eraseIdx_sublist _ _)
  ·
   rw [hsub, map_eraseIdx']; exact h3.sublist (List.eraseIdx_sublist _ _)
 ·
  have : es.eraseIdxIfInBounds j = es := by
   unfold Array.eraseIdxIfInBounds
   rw [dif_neg hj]
  rw [this]; exact h
section
variable {P : Program} {k : TypeId} {w w' : World} {b : Nat} {L : List (Value × Value)}
theorem MB.drop {t e : TypeId} (h : MB P k w b L) (K : Keyed P k) (ht : P.underlying t = some (.map k e)) {x : Value} {lx : Lit} (hx : keyOf P k x = some lx) (ty : TypeId) :
  ∃ w' L', Dropped L x L' ∧ (Builtin.delete_ #[t, k] ty #[.map (some b), x]).run P w = .ok (.tuple #[]) w' ∧ MB P k w' b L' ∧ Kp (· = b) w w' ∧ w'.heap.size = w.heap.size := by
 obtain ⟨es, clock, hb, hst, hk, rfl⟩ := h
 have kp : ∀ o, Kp (· = b) w (setBlock w b o) := fun o => ⟨rfl, rfl, rfl, by simp [setBlock], fun i _ hi => heap_setBlock_other hb o hi⟩
 rcases K.find w hx es.toList hk with ⟨f1, f2⟩ | ⟨j, e0, f1, f2, f3⟩
 ·
  refine ⟨setBlock w b (.map es clock), _, .no (by intro p hp; obtain ⟨y, hy, rfl⟩ := List.mem_map.1 hp; exact f2 y hy), ?_, ⟨_, _, heap_setBlock_same hb _, hst, hk, rfl⟩, kp _, by simp [setBlock]⟩
  simp [Builtin.delete_, run_underlying ht, MapKept.run_getObj_map hb, K.check w _ hx, f1, MapKept.run_setObj_map _ hb, Result.andThen, setBlock]
 ·
  have hjs : j < es.size := by have := (List.getElem?_eq_some_iff.1 f2).1; simpa using this
  have hsub : (es.eraseIdxIfInBounds j).toList = es.toList.eraseIdx j := by
   unfold Array.eraseIdxIfInBounds
   rw [dif_pos hjs]
   simp
  refine ⟨setBlock w b (.map (es.eraseIdxIfInBounds j) clock), _, .yes j e0.val (by rw [List.getElem?_map, f2]; simp [f3]), ?_, ⟨_, _, heap_setBlock_same hb _, stamped_erase' hst j, fun y hy => hk y (by rw [hsub] at hy; exact (List.eraseIdx_sublist _ _).subset hy), ?_⟩, kp _, by simp [setBlock]⟩
  ·
   simp [Builtin.delete_, run_underlying ht, MapKept.run_getObj_map hb, K.check w _ hx, f1, MapKept.run_setObj_map _ hb, Result.andThen, setBlock]
  ·
   rw [hsub, map_eraseIdx']
theorem findIdx_arr' (xs : Array MapEntry) (p : MapEntry → Bool) : xs.findIdx? p = xs.toList.findIdx? p := by
 cases xs
 simp
theorem findIdx_born' : ∀ {l : List MapEntry} {j : Nat} {e0 : MapEntry}, (l.map (·.born)).Nodup → l[j]? = some e0 → l.findIdx? (fun e => (e.born : Int) == (e0.born : Int)) = some j
 | [], j, e0, _, h => by simp at h
 | a :: l, 0, e0, _, h => by simp at h; subst h; rw [List.findIdx?_cons]; simp
 | a :: l, j + 1, e0, hn, h => by
  rw [List.map_cons, List.nodup_cons] at hn
  have h' : l[j]? = some e0 := by simpa using h
  have hne : ¬ a.born = e0.born := fun e => hn.1 (List.mem_map.2 ⟨e0, List.mem_of_getElem? h', e.symm⟩)
  rw [List.findIdx?_cons, if_neg (by simp; omega), findIdx_born' hn.2 h']
  rfl
theorem modify_set' {α : Type} (f : α → α) : ∀ (l : List α) (j : Nat) (a : α), l[j]? = some a → l.modify j f = l.set j (f a)
 | [], j, a, h => by simp at h
 | b :: r, 0, a, h => by simp at h; subst h; simp
 | b :: r, j + 1, a, h => by
  have h' : r[j]? = some a := by simpa using h
  simp [modify_set' f r j a h']
/-- m[k] op= v: the entry is there (laid with the zero value where there was none), then its value is stored. -/
theorem MB.entry {t e : TypeId} (h : MB P k w b L) (K : Keyed P k) (ht : P.underlying t = some (.map k e)) {z : Value} (hz : (P.info? e).map (·.zero) = some (some z)) {x : Value} {lx : Lit} (hx : keyOf P k x = some lx) :
  ∃ (v : Value) (st : Nat) (w1 : World) (L1 : List (Value × Value)), ((∃ i : Nat, L[i]? = some (x, v) ∧ L1 = L) ∨ ((∀ p ∈ L, p.1 ≠ x) ∧ v = z ∧ L1 = L ++ [(x, z)])) ∧ (Instr.mapEntry t (.map (some b)) x).run P w = .ok (.tuple #[v, .int .i64 (st : Int)]) w1 ∧
   MB P k w1 b L1 ∧ Kp (· = b) w w1 ∧ w1.heap.size = w.heap.size ∧
   ∀ (w2 : World) (val : Value), w2.heap[b]? = w1.heap[b]? → ∃ w3 L3, Stored L1 x val L3 ∧ (Instr.entryStore t (.map (some b)) (.int .i64 (st : Int)) val).run P w2 = .ok () w3 ∧ MB P k w3 b L3 ∧ Kp (· = b) w2 w3 ∧ w3.heap.size = w2.heap.size := by
 obtain ⟨es, clock, hb, hst, hk, rfl⟩ := h
 have hzv : (zeroValue e).run P w = .ok z w := by
  cases hi : P.info? e with
  | none => simp [hi] at hz
  | some i =>
   have hz' : i.zero = some z := by simpa [hi] using hz
   simp [zeroValue, typeInfo, hi, hz']
 have kp : ∀ o, Kp (· = b) w (setBlock w b o) := fun o => ⟨rfl, rfl, rfl, by simp [setBlock], fun i _ hi => heap_setBlock_other hb o hi⟩
 have store : ∀ (es1 : Array MapEntry) (c1 : Nat), Stamped es1 c1 → (∀ x ∈ es1.toList, ∃ l, keyOf P k x.key = some l) → ∀ (j : Nat) (e1 : MapEntry), es1.toList[j]? = some e1 → e1.key = x → ∀ (w2 : World) (val : Value), w2.heap[b]? = some (.map es1 c1) →
   ∃ w3 L3, Stored (es1.toList.map fun e => (e.key, e.val)) x val L3 ∧ (Instr.entryStore t (.map (some b)) (.int .i64 (e1.born : Int)) val).run P w2 = .ok () w3 ∧ MB P k w3 b L3 ∧ Kp (· = b) w2 w3 ∧ w3.heap.size = w2.heap.size := by
  intro es1 c1 h1 h2 j e1 hj he w2 val hw2
  have hj' : es1[j]? = some e1 := by simpa using hj
  have hidx : es1.findIdx? (fun e => ((e.born : Nat) : Int) == ((e1.born : Nat) : Int)) = some j := by
   rw [findIdx_arr']
   exact findIdx_born' h1.2.1 hj
  have hrow : (es1.modify j fun e => { e with val := val }).toList = es1.toList.set j { e1 with val := val } := by rw [Array.toList_modify, modify_set' _ _ _ _ hj]
  refine ⟨setBlock w2 b (.map (es1.modify j fun e => { e with val := val }) c1), _, .old j e1.val (by rw [List.getElem?_map, hj]; simp [he]), ?_, ⟨_, _, heap_setBlock_same hw2 _, stamped_modify h1 j _ (fun _ _ => rfl) (fun y _ _ => rfl), ?_, ?_⟩, ⟨rfl, rfl, rfl, by simp [setBlock], fun i _ hi => heap_setBlock_other hw2 _ hi⟩, by simp [setBlock]⟩
  ·
   simp [Instr.entryStore, MapKept.run_getObj_map hw2, asInt, asIntOf, hidx, MapKept.run_setObj_map _ hw2, Result.andThen, setBlock]
  ·
   intro y hy
   rw [hrow] at hy
   rcases List.mem_or_eq_of_mem_set hy with hy | rfl
   ·
    exact h2 y hy
   ·
    exact h2 e1 (List.mem_of_getElem? hj)
  ·
   rw [hrow, List.map_set, ← he]
 rcases K.find w hx es.toList hk with ⟨f1, f2⟩ | ⟨j, e0, f1, f2, f3⟩
 ·
  have hst' := stamped_push (key := x) (val := z) hst (fun y hy => f2 y hy)
  have hk' : ∀ y ∈ (es.push { key := x, val := z, born := clock }).toList, ∃ l, keyOf P k y.key = some l := by
   intro y hy
   simp only [Array.toList_push, List.mem_append, List.mem_singleton] at hy
   rcases hy with hy | rfl
   ·
    exact hk y hy
   ·
    exact ⟨lx, hx⟩
  refine ⟨z, clock, setBlock w b (.map (es.push { key := x, val := z, born := clock }) (clock + 1)), _, .inr ⟨by intro p hp; obtain ⟨y, hy, rfl⟩ := List.mem_map.1 hp; exact f2 y hy, rfl, rfl⟩, ?_, ⟨_, _, heap_setBlock_same hb _, hst', hk', by simp⟩, kp _, by simp [setBlock], fun w2 val hw2 => ?_⟩
  ·
   simp [Instr.mapEntry, run_underlying ht, MapKept.run_getObj_map hb, K.check w _ hx, f1, hzv, MapKept.run_setObj_map _ hb, Result.andThen, setBlock, goInt]
  ·
   have h9 := store _ _ hst' hk' es.size ⟨x, z, clock⟩ (by simp) rfl w2 val (by rw [hw2]; exact heap_setBlock_same hb _)
   simpa using h9
 ·
  have f2' : es[j]? = some e0 := by simpa using f2
  have hsame : es.modify j (fun e => { e with key := x }) = es := by
   apply Array.ext'
   rw [Array.toList_modify, modify_set' _ _ _ _ f2]
   have : ({ e0 with key := x } : MapEntry) = e0 := by rw [← f3]
   rw [this]
   exact List.ext_getElem? (fun i => by
    rw [List.getElem?_set]
    by_cases hij : j = i
    ·
     subst hij
     have hjs := (List.getElem?_eq_some_iff.1 f2).1
     rw [if_pos rfl, if_pos hjs, f2]
    ·
     rw [if_neg hij])
  have hkey : ((es[j]?.map (·.key)).getD x) = x := by rw [f2']; simp [f3]
  have hborn : ((es[j]?.map (fun x => (x.born : Int))).getD 0) = (e0.born : Int) := by rw [f2']; simp
  refine ⟨e0.val, e0.born, setBlock w b (.map es clock), _, .inl ⟨j, by rw [List.getElem?_map, f2]; simp [f3], rfl⟩, ?_, ⟨_, _, heap_setBlock_same hb _, hst, hk, rfl⟩, kp _, by simp [setBlock], fun w2 val hw2 => store es clock hst hk j e0 f2 f3 w2 val (by rw [hw2]; exact heap_setBlock_same hb _)⟩
  simp only [Instr.mapEntry, Sem.run_bind, run_underlying ht, MapKept.run_getObj_map hb, K.check w _ hx, f1, Result.andThen_ok, hkey, hborn, K.stays w hx, hsame, MapKept.run_setObj_map _ hb]
  rfl
end

/-- Block b is a map in which the key enc x reads as g x: z where there is no entry. -/
def MG {κ : Type} (P : Program) (k : TypeId) (enc : κ → Value) (z : Value) (w : World) (b : Nat) (g : κ → Value) : Prop :=
 ∃ f, MF P k enc w b f ∧ ∀ x, (f x).getD z = g x
section
variable {κ : Type} {P : Program} {k : TypeId} {enc : κ → Value} {z : Value} {w w' : World} {b : Nat} {g : κ → Value} {f : κ → Option Value}
theorem MG.lt (h : MG P k enc z w b g) : b < w.heap.size := let ⟨_, h1, _⟩ := h; h1.lt
theorem MG.kept (h : MG P k enc z w b g) (hb : Below w.heap.size w w') : MG P k enc z w' b g := let ⟨f, h1, h2⟩ := h; ⟨f, h1.kept hb, h2⟩
theorem MG.kp {S : Nat → Prop} (h : MG P k enc z w b g) (hb : Kp S w w') (hn : ¬ S b) : MG P k enc z w' b g := let ⟨f, h1, h2⟩ := h; ⟨f, h1.kp hb hn, h2⟩
theorem MG.new (h : MF P k enc w b (fun _ => none)) : MG P k enc z w b (fun _ => z) := ⟨_, h, fun _ => rfl⟩
theorem MG.to (h : MG P k enc z w b g) {g' : κ → Value} (e : ∀ x, g x = g' x) : MG P k enc z w b g' := by
 obtain ⟨f, h1, h2⟩ := h
 exact ⟨f, h1, fun x => by rw [h2, e]⟩
theorem MF.to (h : MF P k enc w b f) {f' : κ → Option Value} (e : ∀ x, f x = f' x) : MF P k enc w b f' := by
 obtain ⟨L, h1, h2, h3⟩ := h
 exact ⟨L, h1, fun x v => by rw [h2, e], h3⟩
theorem MG.stored [DecidableEq κ] (hinj : ∀ x y, enc x = enc y → x = y) {L L' : List (Value × Value)} (hn : (L.map (·.1)).Nodup) (h2 : ∀ x v, (enc x, v) ∈ L ↔ f x = some v) (h3 : ∀ p ∈ L, ∃ x, p.1 = enc x) (hg : ∀ x, (f x).getD z = g x) {x : κ} {v : Value} (h : Stored L (enc x) v L') {w' : World} (hm : MB P k w' b L') :
  MG P k enc z w' b (fun y => if y = x then v else g y) := by
 obtain ⟨r1, r2⟩ := mf_stored hinj hn h2 h3 h
 refine ⟨fun y => if y = x then some v else f y, ⟨L', hm, r1, r2⟩, fun y => ?_⟩
 by_cases hy : y = x
 ·
  simp [hy]
 ·
  simp only [if_neg hy]; exact hg y
end

section
variable {κ : Type} {P : Program} (w : World) {ops : Array Oper} {rest : List Oper} {o : Oper} {a : Act} {Q : Exit → Act → World → Prop} {enc : κ → Value} {K' : Act → World → Prop}
theorem wp_lookG (m x : Operand) (t k e : TypeId) (hop : o.op = .lookup t m x false) (K : Keyed P k) (ht : P.underlying t = some (.map k e)) (z : Value) (hz : (P.info? e).map (·.zero) = some (some z))
  (b : Nat) (g : κ → Value) (hm : a.eval m = .map (some b)) (hb : MG P k enc z w b g) (xv : κ) (hx : a.eval x = enc xv) (hk : ∃ lx, keyOf P k (enc xv) = some lx)
  (h : K' (a.put o.dst (g xv)) w) : o.wp P a w K' Q := by
 obtain ⟨f, ⟨L, h1, h2, _⟩, h4⟩ := hb
 obtain ⟨lx, hlx⟩ := hk
 obtain ⟨v, fl, hf, hr⟩ := h1.look K ht hz hlx false
 have e1 := (mf_found h2 hf).1
 rw [h4] at e1
 unfold Oper.wp execOp
 simp only [hop, hm, hx]
 simp [hr, Result.andThen]
 rw [e1]; exact h
/-- A look-up whose guard holds. -/
theorem wpList_lookGg (hw : Region.wanted o (yielded ops a.tmps) = true) (m x : Operand) (t k e : TypeId) (hop : o.op = .lookup t m x false) (K : Keyed P k) (ht : P.underlying t = some (.map k e)) (z : Value) (hz : (P.info? e).map (·.zero) = some (some z))
  (b : Nat) (g : κ → Value) (hm : a.eval m = .map (some b)) (hb : MG P k enc z w b g) (xv : κ) (hx : a.eval x = enc xv) (hk : ∃ lx, keyOf P k (enc xv) = some lx)
  (h : wpList P ops Q rest (a.put o.dst (g xv)) w) : wpList P ops Q (o :: rest) a w :=
 wpList_step fun _ hK' => by rw [if_pos hw]; exact wp_lookG w m x t k e hop K ht z hz b g hm hb xv hx hk (hK' _ _ h)
variable [DecidableEq κ]
theorem wp_updG (hinj : ∀ x y, enc x = enc y → x = y) (m x v : Operand) (t k e : TypeId) (hop : o.op = .mapUpdate t m x v) (K : Keyed P k) (ht : P.underlying t = some (.map k e)) (z : Value)
  (b : Nat) (g : κ → Value) (hm : a.eval m = .map (some b)) (hb : MG P k enc z w b g) (xv : κ) (vv : Value) (hx : a.eval x = enc xv) (hv : a.eval v = vv) (hk : ∃ lx, keyOf P k (enc xv) = some lx)
  (h : ∀ w', MG P k enc z w' b (fun y => if y = xv then vv else g y) → Kp (· = b) w w' → w'.heap.size = w.heap.size → K' (a.put o.dst undef) w') : o.wp P a w K' Q := by
 obtain ⟨f, ⟨L, h1, h2, h3⟩, h4⟩ := hb
 obtain ⟨lx, hlx⟩ := hk
 obtain ⟨w', L', hs, hr, h5, h6, h7⟩ := h1.store K ht hlx vv
 unfold Oper.wp execOp
 simp only [hop, hm, hx, hv]
 simp [hr, Result.andThen]
 exact h w' (MG.stored hinj h1.nodup h2 h3 h4 hs h5) h6 h7
theorem wpList_updG (hinj : ∀ x y, enc x = enc y → x = y) (hg : o.guard = none) (m x v : Operand) (t k e : TypeId) (hop : o.op = .mapUpdate t m x v) (K : Keyed P k) (ht : P.underlying t = some (.map k e)) (z : Value)
  (b : Nat) (g : κ → Value) (hm : a.eval m = .map (some b)) (hb : MG P k enc z w b g) (xv : κ) (vv : Value) (hx : a.eval x = enc xv) (hv : a.eval v = vv) (hk : ∃ lx, keyOf P k (enc xv) = some lx)
  (h : ∀ w', MG P k enc z w' b (fun y => if y = xv then vv else g y) → Kp (· = b) w w' → w'.heap.size = w.heap.size → wpList P ops Q rest (a.put o.dst undef) w') : wpList P ops Q (o :: rest) a w :=
 wpList_plain hg fun _ hK' => wp_updG w hinj m x v t k e hop K ht z b g hm hb xv vv hx hv hk (fun w' h1 h2 h3 => hK' _ _ (h w' h1 h2 h3))
end
section
variable {P : Program} (w : World) {o : Oper} {a : Act} {Q : Exit → Act → World → Prop} {K' : Act → World → Prop}
end
end Go.Proofs.YtfcakjpljjnjnaaGreatDoor
/- SHA-256 on lists of bytes: plain definitions that follow the program's own steps, and the walk's spelling of operations on words. No program in sight. -/
namespace Go.Proofs.YtfcakjpljjnjnaaGreatDoor
open Go Gf

namespace Sha
/-- Rotated to the right. -/
def rr (x n : UInt32) : UInt32 := x >>> n ||| x <<< (32 - n)
def ss1 (x : UInt32) : UInt32 := rr x 17 ^^^ rr x 19 ^^^ x >>> 10
def ss0 (x : UInt32) : UInt32 := rr x 7 ^^^ rr x 18 ^^^ x >>> 3
def gw (l : List UInt32) (k : Nat) : UInt32 := l.getD k 0
/-- The next word of the schedule; the words so far are listed from the last one on. -/
def nxt (l : List UInt32) : UInt32 := ss1 (gw l 1) + gw l 6 + ss0 (gw l 14) + gw l 15
def sched : Nat → List UInt32 → List UInt32
 | 0, l => l
 | n + 1, l => sched n (nxt l :: l)
/-- The eight words. -/
structure St where
 a : UInt32
 b : UInt32
 c : UInt32
 d : UInt32
 e : UInt32
 f : UInt32
 g : UInt32
 h : UInt32
def bs1 (e : UInt32) : UInt32 := rr e 6 ^^^ rr e 11 ^^^ rr e 25
def bs0 (a : UInt32) : UInt32 := rr a 2 ^^^ rr a 13 ^^^ rr a 22
def chf (e f g : UInt32) : UInt32 := e &&& f ^^^ (~~~ e) &&& g
def maj (a b c : UInt32) : UInt32 := a &&& b ^^^ a &&& c ^^^ b &&& c
def t1 (s : St) (k w : UInt32) : UInt32 := s.h + bs1 s.e + chf s.e s.f s.g + k + w
def t2 (s : St) : UInt32 := bs0 s.a + maj s.a s.b s.c
def rnd (s : St) (k w : UInt32) : St := ⟨t1 s k w + t2 s, s.a, s.b, s.c, s.d + t1 s k w, s.e, s.f, s.g⟩
def rnds : St → List UInt32 → List UInt32 → St
 | s, k :: ks, w :: ws => rnds (rnd s k w) ks ws
 | s, _, _ => s
def St.add (s v : St) : St := ⟨s.a + v.a, s.b + v.b, s.c + v.c, s.d + v.d, s.e + v.e, s.f + v.f, s.g + v.g, s.h + v.h⟩
def word (l : List UInt8) (k : Nat) : UInt32 :=
 (l.getD (4 * k) 0).toUInt32 <<< 24 ||| (l.getD (4 * k + 1) 0).toUInt32 <<< 16 ||| (l.getD (4 * k + 2) 0).toUInt32 <<< 8 ||| (l.getD (4 * k + 3) 0).toUInt32
def ks : List UInt32 := [
 0x428a2f98, 0x71374491, 0xb5c0fbcf, 0xe9b5dba5, 0x3956c25b, 0x59f111f1, 0x923f82a4, 0xab1c5ed5,
 0xd807aa98, 0x12835b01, 0x243185be, 0x550c7dc3, 0x72be5d74, 0x80deb1fe, 0x9bdc06a7, 0xc19bf174,
 0xe49b69c1, 0xefbe4786, 0x0fc19dc6, 0x240ca1cc, 0x2de92c6f, 0x4a7484aa, 0x5cb0a9dc, 0x76f988da,
 0x983e5152, 0xa831c66d, 0xb00327c8, 0xbf597fc7, 0xc6e00bf3, 0xd5a79147, 0x06ca6351, 0x14292967,
 0x27b70a85, 0x2e1b2138, 0x4d2c6dfc, 0x53380d13, 0x650a7354, 0x766a0abb, 0x81c2c92e, 0x92722c85,
 0xa2bfe8a1, 0xa81a664b, 0xc24b8b70, 0xc76c51a3, 0xd192e819, 0xd6990624, 0xf40e3585, 0x106aa070,
 0x19a4c116, 0x1e376c08, 0x2748774c, 0x34b0bcb5, 0x391c0cb3, 0x4ed8aa4a, 0x5b9cca4f, 0x682e6ff3,
 0x748f82ee, 0x78a5636f, 0x84c87814, 0x8cc70208, 0x90befffa, 0xa4506ceb, 0xbef9a3f7, 0xc67178f2]
def first (l : List UInt8) : List UInt32 := (List.range 16).map (word l)
def ws (l : List UInt8) : List UInt32 := (sched 48 (first l).reverse).reverse
/-- The words after a block. -/
def comp (s : St) (l : List UInt8) : St := s.add (rnds s ks (ws l))
def ini : St := ⟨0x6a09e667, 0xbb67ae85, 0x3c6ef372, 0xa54ff53a, 0x510e527f, 0x9b05688c, 0x1f83d9ab, 0x5be0cd19⟩
/-- The words after the first k blocks of a list. -/
def hk : Nat → List UInt8 → St
 | 0, _ => ini
 | k + 1, l => comp (hk k l) ((l.drop (64 * k)).take 64)
/-- The words after the whole blocks of a list. -/
def hs (l : List UInt8) : St := hk (l.length / 64) l
def be8 (n : Nat) : List UInt8 := (List.range 8).map fun i => UInt8.ofNat (n >>> (56 - 8 * i))
def padding (n : Nat) : List UInt8 := (128 : UInt8) :: (List.replicate ((119 - n % 64) % 64) (0 : UInt8) ++ be8 (n * 8))
def bytes4 (x : UInt32) : List UInt8 := [(x >>> 24).toUInt8, (x >>> 16).toUInt8, (x >>> 8).toUInt8, x.toUInt8]
def St.bytes (s : St) : List UInt8 := bytes4 s.a ++ bytes4 s.b ++ bytes4 s.c ++ bytes4 s.d ++ bytes4 s.e ++ bytes4 s.f ++ bytes4 s.g ++ bytes4 s.h
/-- The sum of bytes. -/
def sha (l : List UInt8) : List UInt8 := (hs (l ++ padding l.length)).bytes

/-! ### words as the walk spells them -/
/-- A word as an integer: a plain def. -/
def wv (x : UInt32) : Int := (x.toNat : Int)
abbrev W (x : UInt32) : Value := .int .u32 (wv x)
theorem add_w (a b : UInt32) : (wv a + wv b) % 4294967296 = wv (a + b) := by
 unfold wv; rw [UInt32.toNat_add]; omega
theorem add_wrap (a b : UInt32) : IntKind.u32.wrap (wv a + wv b) = wv (a + b) := by
 show (wv a + wv b) % 4294967296 = _; exact add_w a b
theorem xor_w (a b : UInt32) : bits .xor .u32 (wv a) (wv b) = wv (a ^^^ b) := by
 unfold wv; rw [u32_xor_nat _ _ a.toNat_lt b.toNat_lt, UInt32.toNat_xor]
theorem and_w (a b : UInt32) : bits .and .u32 (wv a) (wv b) = wv (a &&& b) := by
 unfold wv; rw [u32_and_nat _ _ a.toNat_lt b.toNat_lt, UInt32.toNat_and]
theorem or_w (a b : UInt32) : bits .or .u32 (wv a) (wv b) = wv (a ||| b) := by
 unfold wv; rw [u32_or_nat _ _ a.toNat_lt b.toNat_lt, UInt32.toNat_or]
theorem not_w (a : UInt32) : bits .xor .u32 4294967295 (wv a) = wv (~~~ a) := by
 have h := xor_w (UInt32.ofNat 4294967295) a
 have e : wv (UInt32.ofNat 4294967295) = 4294967295 := by decide
 rw [e] at h
 rw [h]
 congr 1
theorem shl_w (x : UInt32) (n : Nat) (hn : n < 32) : wv x * 2 ^ n % 4294967296 = wv (x <<< UInt32.ofNat n) := by
 unfold wv
 rw [UInt32.toNat_shiftLeft, UInt32.toNat_ofNat_of_lt' (by show n < 4294967296; omega), Nat.mod_eq_of_lt hn, Nat.shiftLeft_eq, Int.natCast_emod, Int.natCast_mul, Int.natCast_pow]
 rfl
theorem shr_w (x : UInt32) (n : Nat) (hn : n < 32) : wv x / 2 ^ n = wv (x >>> UInt32.ofNat n) := by
 unfold wv
 rw [UInt32.toNat_shiftRight, UInt32.toNat_ofNat_of_lt' (by show n < 4294967296; omega), Nat.mod_eq_of_lt hn, Nat.shiftRight_eq_div_pow, Int.natCast_ediv, Int.natCast_pow]
 rfl
theorem wv_byte (b : UInt8) : bv b = wv b.toUInt32 := by
 unfold bv wv; rw [UInt8.toNat_toUInt32]
/-- A rotation as the program takes it. -/
theorem rot_w (x : UInt32) (n : Nat) (h0 : 0 < n) (h : n < 32) : bits .or .u32 (wv x * 2 ^ (32 - n) % 4294967296) (wv x / 2 ^ n) = wv (rr x (UInt32.ofNat n)) := by
 rw [shl_w x (32 - n) (by omega), shr_w x n h, or_w, rr, UInt32.or_comm]
 congr 3
 apply UInt32.toNat_inj.1
 rw [UInt32.toNat_ofNat_of_lt' (by show 32 - n < 4294967296; omega), UInt32.toNat_sub_of_le _ _ (by rw [UInt32.le_iff_toNat_le, UInt32.toNat_ofNat_of_lt' (by show n < 4294967296; omega)]; show n ≤ 32; omega), UInt32.toNat_ofNat_of_lt' (by show n < 4294967296; omega)]
 rfl
end Sha
end Go.Proofs.YtfcakjpljjnjnaaGreatDoor
/- Contract of bits.RotateLeft32 at the rotations that SHA-256 takes. -/
namespace Go.Proofs.YtfcakjpljjnjnaaGreatDoor
open Go.RowKit Gf Sha

theorem and31_2 : bits .and .u64 (IntKind.u64.wrap (-2)) 31 = 30 := by decide
theorem or_2 (x : UInt32) : bits .or .u32 (wv x * 1073741824 % 4294967296) (wv x / 4) = wv (rr x 2) := rot_w x 2 (by decide) (by decide)
theorem and31_6 : bits .and .u64 (IntKind.u64.wrap (-6)) 31 = 26 := by decide
theorem or_6 (x : UInt32) : bits .or .u32 (wv x * 67108864 % 4294967296) (wv x / 64) = wv (rr x 6) := rot_w x 6 (by decide) (by decide)
theorem and31_7 : bits .and .u64 (IntKind.u64.wrap (-7)) 31 = 25 := by decide
theorem or_7 (x : UInt32) : bits .or .u32 (wv x * 33554432 % 4294967296) (wv x / 128) = wv (rr x 7) := rot_w x 7 (by decide) (by decide)
theorem and31_11 : bits .and .u64 (IntKind.u64.wrap (-11)) 31 = 21 := by decide
theorem or_11 (x : UInt32) : bits .or .u32 (wv x * 2097152 % 4294967296) (wv x / 2048) = wv (rr x 11) := rot_w x 11 (by decide) (by decide)
theorem and31_13 : bits .and .u64 (IntKind.u64.wrap (-13)) 31 = 19 := by decide
theorem or_13 (x : UInt32) : bits .or .u32 (wv x * 524288 % 4294967296) (wv x / 8192) = wv (rr x 13) := rot_w x 13 (by decide) (by decide)
theorem and31_17 : bits .and .u64 (IntKind.u64.wrap (-17)) 31 = 15 := by decide
theorem or_17 (x : UInt32) : bits .or .u32 (wv x * 32768 % 4294967296) (wv x / 131072) = wv (rr x 17) := rot_w x 17 (by decide) (by decide)
theorem and31_18 : bits .and .u64 (IntKind.u64.wrap (-18)) 31 = 14 := by decide
theorem or_18 (x : UInt32) : bits .or .u32 (wv x * 16384 % 4294967296) (wv x / 262144) = wv (rr x 18) := rot_w x 18 (by decide) (by decide)
theorem and31_19 : bits .and .u64 (IntKind.u64.wrap (-19)) 31 = 13 := by decide
theorem or_19 (x : UInt32) : bits .or .u32 (wv x * 8192 % 4294967296) (wv x / 524288) = wv (rr x 19) := rot_w x 19 (by decide) (by decide)
theorem and31_22 : bits .and .u64 (IntKind.u64.wrap (-22)) 31 = 10 := by decide
theorem or_22 (x : UInt32) : bits .or .u32 (wv x * 1024 % 4294967296) (wv x / 4194304) = wv (rr x 22) := rot_w x 22 (by decide) (by decide)
theorem and31_25 : bits .and .u64 (IntKind.u64.wrap (-25)) 31 = 7 := by decide
theorem or_25 (x : UInt32) : bits .or .u32 (wv x * 128 % 4294967296) (wv x / 33554432) = wv (rr x 25) := rot_w x 25 (by decide) (by decide)
attribute [local go_sem] and31_2 or_2 and31_6 or_6 and31_7 or_7 and31_11 or_11 and31_13 or_13 and31_17 or_17 and31_18 or_18 and31_19 or_19 and31_22 or_22 and31_25 or_25
theorem rot2_any (x : UInt32) (w : World) :
  Calls Tryz.prog 153 #[W x, .int .i64 (-2)] w fun e w' => e = .returned (W (rr x 2)) ∧ w = w' := by
 go_enter Tryz.func153, Tryz.ntmps153
 go_wp2
 go_ret
 exact ⟨rfl, rfl⟩
theorem rot6_any (x : UInt32) (w : World) :
  Calls Tryz.prog 153 #[W x, .int .i64 (-6)] w fun e w' => e = .returned (W (rr x 6)) ∧ w = w' := by
 go_enter Tryz.func153, Tryz.ntmps153
 go_wp2
 go_ret
 exact ⟨rfl, rfl⟩
theorem rot7_any (x : UInt32) (w : World) :
  Calls Tryz.prog 153 #[W x, .int .i64 (-7)] w fun e w' => e = .returned (W (rr x 7)) ∧ w = w' := by
 go_enter Tryz.func153, Tryz.ntmps153
 go_wp2
 go_ret
 exact ⟨rfl, rfl⟩
theorem rot11_any (x : UInt32) (w : World) :
  Calls Tryz.prog 153 #[W x, .int .i64 (-11)] w fun e w' => e = .returned (W (rr x 11)) ∧ w = w' := by
 go_enter Tryz.func153, Tryz.ntmps153
 go_wp2
 go_ret
 exact ⟨rfl, rfl⟩
theorem rot13_any (x : UInt32) (w : World) :
  Calls Tryz.prog 153 #[W x, .int .i64 (-13)] w fun e w' => e = .returned (W (rr x 13)) ∧ w = w' := by
 go_enter Tryz.func153, Tryz.ntmps153
 go_wp2
 go_ret
 exact ⟨rfl, rfl⟩
theorem rot17_any (x : UInt32) (w : World) :
  Calls Tryz.prog 153 #[W x, .int .i64 (-17)] w fun e w' => e = .returned (W (rr x 17)) ∧ w = w' := by
 go_enter Tryz.func153, Tryz.ntmps153
 go_wp2
 go_ret
 exact ⟨rfl, rfl⟩
theorem rot18_any (x : UInt32) (w : World) :
  Calls Tryz.prog 153 #[W x, .int .i64 (-18)] w fun e w' => e = .returned (W (rr x 18)) ∧ w = w' := by
 go_enter Tryz.func153, Tryz.ntmps153
 go_wp2
 go_ret
 exact ⟨rfl, rfl⟩
theorem rot19_any (x : UInt32) (w : World) :
  Calls Tryz.prog 153 #[W x, .int .i64 (-19)] w fun e w' => e = .returned (W (rr x 19)) ∧ w = w' := by
 go_enter Tryz.func153, Tryz.ntmps153
 go_wp2
 go_ret
 exact ⟨rfl, rfl⟩
theorem rot22_any (x : UInt32) (w : World) :
  Calls Tryz.prog 153 #[W x, .int .i64 (-22)] w fun e w' => e = .returned (W (rr x 22)) ∧ w = w' := by
 go_enter Tryz.func153, Tryz.ntmps153
 go_wp2
 go_ret
 exact ⟨rfl, rfl⟩
theorem rot25_any (x : UInt32) (w : World) :
  Calls Tryz.prog 153 #[W x, .int .i64 (-25)] w fun e w' => e = .returned (W (rr x 25)) ∧ w = w' := by
 go_enter Tryz.func153, Tryz.ntmps153
 go_wp2
 go_ret
 exact ⟨rfl, rfl⟩
end Go.Proofs.YtfcakjpljjnjnaaGreatDoor
/- The schedule of SHA-256 word by word, as cells. No program in sight. -/
namespace Go.Proofs.YtfcakjpljjnjnaaGreatDoor
open Go Gf

namespace Sha
/-- The first k words of the schedule, the last one first. -/
def wl (l : List UInt8) : Nat → List UInt32
 | 0 => []
 | k + 1 => (if k < 16 then word l k else nxt (wl l k)) :: wl l k
theorem wl_length (l : List UInt8) (k : Nat) : (wl l k).length = k := by
 induction k with
 | zero => rfl
 | succ k ih => simp [wl, ih]
theorem wl_first (l : List UInt8) (k : Nat) (h : k ≤ 16) : wl l k = ((List.range k).map (word l)).reverse := by
 induction k with
 | zero => rfl
 | succ k ih => rw [wl, if_pos (by omega), ih (by omega), List.range_succ, List.map_append, List.reverse_append]; rfl
theorem sched_wl (l : List UInt8) (n : Nat) : ∀ k, 16 ≤ k → sched n (wl l k) = wl l (k + n) := by
 induction n with
 | zero => intro k _; rfl
 | succ n ih =>
  intro k hk
  have e : nxt (wl l k) :: wl l k = wl l (k + 1) := by rw [wl, if_neg (by omega)]
  rw [sched, e, ih (k + 1) (by omega), show k + 1 + n = k + (n + 1) by omega]
theorem ws_wl (l : List UInt8) : ws l = (wl l 64).reverse := by
 rw [ws, first, ← wl_first l 16 (by omega), sched_wl l 48 16 (by omega)]
theorem ws_length (l : List UInt8) : (ws l).length = 64 := by rw [ws_wl, List.length_reverse, wl_length]

/-- The cells of the array while the schedule is being made. -/
def wcells (r : List UInt32) : List Value := r.reverse.map W ++ List.replicate (64 - r.length) (.int .u32 0)
theorem wcells_get (r : List UInt32) (j i : Nat) (h : j + i + 1 = r.length) : (wcells r)[j]? = some (W (gw r i)) := by
 have h1 : j < (r.reverse.map W).length := by simp; omega
 rw [wcells, List.getElem?_append_left h1, List.getElem?_map, List.getElem?_reverse (by omega), show r.length - 1 - j = i by omega, gw, List.getD, List.getElem?_eq_getElem (by omega)]
 rfl
theorem wcells_set (r : List UInt32) (x : UInt32) (h : r.length < 64) : (wcells r).set r.length (W x) = wcells (x :: r) := by
 have h1 : (r.reverse.map W).length = r.length := by simp
 have e : 64 - r.length = (64 - (r.length + 1)) + 1 := by omega
 unfold wcells
 rw [List.set_append, if_neg (by omega), h1, Nat.sub_self, e, List.replicate_succ, List.set_cons_zero, List.reverse_cons, List.map_append, List.append_assoc, List.length_cons]
 rfl
theorem wcells_zero (r : List UInt32) (h : r.length < 64) : (wcells r)[r.length]? = some (.int .u32 0) := by
 have h1 : (r.reverse.map W).length = r.length := by simp
 rw [wcells, List.getElem?_append_right (by omega), h1, Nat.sub_self, List.getElem?_replicate_of_lt (by omega)]
theorem wcells_nil : wcells [] = List.replicate 64 (.int .u32 0) := by simp [wcells]
/-- The word at place k of the whole schedule. -/
theorem wcells_ws (l : List UInt8) (k : Nat) (h : k < 64) : (wcells (wl l 64))[k]? = some (W (gw (ws l) k)) := by
 rw [wcells_get _ k (63 - k) (by rw [wl_length]; omega), ws_wl]
 congr 2
 rw [gw, gw, List.getD, List.getD, List.getElem?_reverse (by rw [wl_length]; exact h), wl_length, show 64 - 1 - k = 63 - k by omega]
theorem nxt_wl (l : List UInt8) (k : Nat) (h : 16 ≤ k) : wl l (k + 1) = (ss1 (gw (wl l k) 1) + gw (wl l k) 6 + ss0 (gw (wl l k) 14) + gw (wl l k) 15) :: wl l k := by
 rw [wl, if_neg (by omega)]; rfl
theorem word_wl (l : List UInt8) (k : Nat) (h : k < 16) : wl l (k + 1) = word l k :: wl l k := by rw [wl, if_pos h]
theorem word_eq (l : List UInt8) (k : Nat) : (gB l (4 * k)).toUInt32 <<< 24 ||| (gB l (4 * k + 1)).toUInt32 <<< 16 ||| (gB l (4 * k + 2)).toUInt32 <<< 8 ||| (gB l (4 * k + 3)).toUInt32 = word l k := rfl

/-- The state after k rounds. -/
def rk (s : St) (l : List UInt8) : Nat → St
 | 0 => s
 | k + 1 => rnd (rk s l k) (gw ks k) (gw (ws l) k)
theorem rnds_take (x y : UInt32) (xs : List UInt32) : ∀ (ys : List UInt32) (s : St), rnds s (xs ++ [x]) (ys ++ [y]) = (if xs.length = ys.length then rnd (rnds s xs ys) x y else rnds s (xs ++ [x]) (ys ++ [y])) := by
 induction xs with
 | nil =>
  intro ys s
  cases ys with
  | nil => rfl
  | cons y ys => simp
 | cons a xs ih =>
  intro ys s
  cases ys with
  | nil => simp
  | cons b ys =>
   simp only [List.cons_append, rnds, List.length_cons, Nat.add_right_cancel_iff]
   split
   ·
    rename_i h
    rw [ih, if_pos h]
   ·
    rfl
theorem rk_rnds (s : St) (l : List UInt8) (k : Nat) (h : k ≤ 64) : rk s l k = rnds s (ks.take k) ((ws l).take k) := by
 have h1 : ks.length = 64 := by decide
 have h2 := ws_length l
 induction k with
 | zero => rfl
 | succ k ih =>
  rw [List.take_succ_eq_append_getElem (by omega), List.take_succ_eq_append_getElem (by omega), rnds_take, if_pos (by simp; omega), ← ih (by omega), rk]
  congr 1
  ·
   rw [gw, List.getD, List.getElem?_eq_getElem (by omega)]; rfl
  ·
   rw [gw, List.getD, List.getElem?_eq_getElem (by omega)]; rfl
theorem comp_rk (s : St) (l : List UInt8) : comp s l = s.add (rk s l 64) := by
 have h1 : ks.length = 64 := by decide
 have h2 := ws_length l
 rw [comp, rk_rnds s l 64 (by omega), List.take_of_length_le (by omega), List.take_of_length_le (by omega)]
/-- The words as cells. -/
def St.cells (s : St) : List Value := [W s.a, W s.b, W s.c, W s.d, W s.e, W s.f, W s.g, W s.h]
/-- Word k. -/
def sw (s : St) (k : Nat) : UInt32 := match k with | 0 => s.a | 1 => s.b | 2 => s.c | 3 => s.d | 4 => s.e | 5 => s.f | 6 => s.g | _ => s.h
theorem cells_sw (s : St) (k : Nat) (h : k < 8) : s.cells[k]? = some (W (sw s k)) := by
 match k, h with
 | 0, _ => rfl
 | 1, _ => rfl
 | 2, _ => rfl
 | 3, _ => rfl
 | 4, _ => rfl
 | 5, _ => rfl
 | 6, _ => rfl
 | 7, _ => rfl
theorem sw_add (s v : St) (k : Nat) (h : k < 8) : sw (s.add v) k = sw s k + sw v k := by
 match k, h with
 | 0, _ => rfl
 | 1, _ => rfl
 | 2, _ => rfl
 | 3, _ => rfl
 | 4, _ => rfl
 | 5, _ => rfl
 | 6, _ => rfl
 | 7, _ => rfl
theorem cells_length (s : St) : s.cells.length = 8 := rfl
/-- A prefix of one state's words over another's. -/
def mixC (v s : St) (rest : List Value) (k : Nat) : List Value := v.cells.take k ++ s.cells.drop k ++ rest
theorem mixC_zero (v s : St) (rest : List Value) : mixC v s rest 0 = s.cells ++ rest := rfl
theorem mixC_all (v s : St) (rest : List Value) : mixC v s rest 8 = v.cells ++ rest := rfl
theorem mixC_set (v s : St) (rest : List Value) (k : Nat) (h : k < 8) : (mixC v s rest k).set k (W (sw v k)) = mixC v s rest (k + 1) := by
 match k, h with
 | 0, _ => rfl
 | 1, _ => rfl
 | 2, _ => rfl
 | 3, _ => rfl
 | 4, _ => rfl
 | 5, _ => rfl
 | 6, _ => rfl
 | 7, _ => rfl
theorem mixC_get (v s : St) (rest : List Value) (k : Nat) (h : k < 8) : (mixC v s rest k)[k]? = some (W (sw s k)) := by
 match k, h with
 | 0, _ => rfl
 | 1, _ => rfl
 | 2, _ => rfl
 | 3, _ => rfl
 | 4, _ => rfl
 | 5, _ => rfl
 | 6, _ => rfl
 | 7, _ => rfl
end Sha
end Go.Proofs.YtfcakjpljjnjnaaGreatDoor
