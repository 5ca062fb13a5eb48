/- Several texts in one: Mg. -/
import Derived.Test.YtheijpjfpaghfaaGreatDoorC20
/- Maps of the call's own read as functions that are total (the zero value where there is no entry); delete; m[k] += x. For any program. -/
namespace Go.Proofs.YtheijpjfpaghfaaGreatDoor
open Go Go.RowKit Go.ChangeMaps Go.MapKept Gf
open Go.Maps (Keyed)

/-- The list behind a delete. -/
inductive Dropped (L : List (Value × Value)) (x : Value) : List (Value × Value) → Prop
 | no (h : ∀ p ∈ L, p.1 ≠ x) : Dropped L x L
 | yes (i : Nat) (u : Value) (h : L[i]? = some (x, u)) : Dropped L x (L.eraseIdx i)
theorem map_eraseIdx' {α β : Type} (f : α → β) : ∀ (l : List α) (i : Nat), (l.eraseIdx i).map f = (l.map f).eraseIdx i
 | [], i => by simp
 | a :: l, 0 => by simp
 | a :: l, i + 1 => by simp [map_eraseIdx' f l i]
theorem stamped_erase' {es : Array MapEntry} {clock : Nat} (h : Stamped es clock) (j : Nat) : Stamped (es.eraseIdxIfInBounds j) clock := by
 by_cases hj : j < es.size
 ·
  have hsub : (es.eraseIdxIfInBounds j).toList = es.toList.eraseIdx j := by
   unfold Array.eraseIdxIfInBounds
   rw [dif_pos hj]
   simp
  obtain ⟨h1, h2, h3⟩ := h
  refine ⟨fun x hx => ?_, ?_, ?_⟩
  ·
   exact h1 x (by rw [hsub] at hx; exact (List.eraseIdx_sublist _ _).subset hx)
  ·
   rw [hsub, map_eraseIdx']; exact h2.sublist (List.eraseIdx_sublist _ _)
  ·
   rw [hsub, map_eraseIdx']; exact h3.sublist (List.eraseIdx_sublist _ _)
 ·
  have : es.eraseIdxIfInBounds j = es := by
   unfold Array.eraseIdxIfInBounds
   rw [dif_neg hj]
  rw [this]; exact h
section
variable {P : Program} {k : TypeId} {w w' : World} {b : Nat} {L : List (Value × Value)}
theorem MB.drop {t e : TypeId} (h : MB P k w b L) (K : Keyed P k) (ht : P.underlying t = some (.map k e)) {x : Value} {lx : Lit} (hx : keyOf P k x = some lx) (ty : TypeId) :
  ∃ w' L', Dropped L x L' ∧ (Builtin.delete_ #[t, k] ty #[.map (some b), x]).run P w = .ok (.tuple #[]) w' ∧ MB P k w' b L' ∧ Kp (· = b) w w' ∧ w'.heap.size = w.heap.size := by
 obtain ⟨es, clock, hb, hst, hk, rfl⟩ := h
 have kp : ∀ o, Kp (· = b) w (setBlock w b o) := fun o => ⟨rfl, rfl, rfl, by simp [setBlock], fun i _ hi => heap_setBlock_other hb o hi⟩
 rcases K.find w hx es.toList hk with ⟨f1, f2⟩ | ⟨j, e0, f1, f2, f3⟩
 ·
  refine ⟨setBlock w b (.map es clock), _, .no (by intro p hp; obtain ⟨y, hy, rfl⟩ := List.mem_map.1 hp; exact f2 y hy), ?_, ⟨_, _, heap_setBlock_same hb _, hst, hk, rfl⟩, kp _, by simp [setBlock]⟩
  simp [Builtin.delete_, run_underlying ht, MapKept.run_getObj_map hb, K.check w _ hx, f1, MapKept.run_setObj_map _ hb, Result.andThen, setBlock]
 ·
  have hjs : j < es.size := by have := (List.getElem?_eq_some_iff.1 f2).1; simpa using this
  have hsub : (es.eraseIdxIfInBounds j).toList = es.toList.eraseIdx j := by
   unfold Array.eraseIdxIfInBounds
   rw [dif_pos hjs]
   simp
  refine ⟨setBlock w b (.map (es.eraseIdxIfInBounds j) clock), _, .yes j e0.val (by rw [List.getElem?_map, f2]; simp [f3]), ?_, ⟨_, _, heap_setBlock_same hb _, stamped_erase' hst j, fun y hy => hk y (by rw [hsub] at hy; exact (List.eraseIdx_sublist _ _).subset hy), ?_⟩, kp _, by simp [setBlock]⟩
  ·
   simp [Builtin.delete_, run_underlying ht, MapKept.run_getObj_map hb, K.check w _ hx, f1, MapKept.run_setObj_map _ hb, Result.andThen, setBlock]
  ·
   rw [hsub, map_eraseIdx']
theorem findIdx_arr' (xs : Array MapEntry) (p : MapEntry → Bool) : xs.findIdx? p = xs.toList.findIdx? p := by
 cases xs
 simp
theorem findIdx_born' : ∀ {l : List MapEntry} {j : Nat} {e0 : MapEntry}, (l.map (·.born)).Nodup → l[j]? = some e0 → l.findIdx? (fun e => (e.born : Int) == (e0.born : Int)) = some j
 | [], j, e0, _, h => by simp at h
 | a :: l, 0, e0, _, h => by simp at h; subst h; rw [List.findIdx?_cons]; simp
 | a :: l, j + 1, e0, hn, h => by
  rw [List.map_cons, List.nodup_cons] at hn
  have h' : l[j]? = some e0 := by simpa using h
  have hne : ¬ a.born = e0.born := fun e => hn.1 (List.mem_map.2 ⟨e0, List.mem_of_getElem? h', e.symm⟩)
  rw [List.findIdx?_cons, if_neg (by simp; omega), findIdx_born' hn.2 h']
  rfl
theorem modify_set' {α : Type} (f : α → α) : ∀ (l : List α) (j : Nat) (a : α), l[j]? = some a → l.modify j f = l.set j (f a)
 | [], j, a, h => by simp at h
 | b :: r, 0, a, h => by simp at h; subst h; simp
 | b :: r, j + 1, a, h => by
  have h' : r[j]? = some a := by simpa using h
  simp [modify_set' f r j a h']
/-- m[k] op= v: the entry is there (laid with the zero value where there was none), then its value is stored. -/
theorem MB.entry {t e : TypeId} (h : MB P k w b L) (K : Keyed P k) (ht : P.underlying t = some (.map k e)) {z : Value} (hz : (P.info? e).map (·.zero) = some (some z)) {x : Value} {lx : Lit} (hx : keyOf P k x = some lx) :
  ∃ (v : Value) (st : Nat) (w1 : World) (L1 : List (Value × Value)), ((∃ i : Nat, L[i]? = some (x, v) ∧ L1 = L) ∨ ((∀ p ∈ L, p.1 ≠ x) ∧ v = z ∧ L1 = L ++ [(x, z)])) ∧ (Instr.mapEntry t (.map (some b)) x).run P w = .ok (.tuple #[v, .int .i64 (st : Int)]) w1 ∧
   MB P k w1 b L1 ∧ Kp (· = b) w w1 ∧ w1.heap.size = w.heap.size ∧
   ∀ (w2 : World) (val : Value), w2.heap[b]? = w1.heap[b]? → ∃ w3 L3, Stored L1 x val L3 ∧ (Instr.entryStore t (.map (some b)) (.int .i64 (st : Int)) val).run P w2 = .ok () w3 ∧ MB P k w3 b L3 ∧ Kp (· = b) w2 w3 ∧ w3.heap.size = w2.heap.size := by
 obtain ⟨es, clock, hb, hst, hk, rfl⟩ := h
 have hzv : (zeroValue e).run P w = .ok z w := by
  cases hi : P.info? e with
  | none => simp [hi] at hz
  | some i =>
   have hz' : i.zero = some z := by simpa [hi] using hz
   simp [zeroValue, typeInfo, hi, hz']
 have kp : ∀ o, Kp (· = b) w (setBlock w b o) := fun o => ⟨rfl, rfl, rfl, by simp [setBlock], fun i _ hi => heap_setBlock_other hb o hi⟩
 have store : ∀ (es1 : Array MapEntry) (c1 : Nat), Stamped es1 c1 → (∀ x ∈ es1.toList, ∃ l, keyOf P k x.key = some l) → ∀ (j : Nat) (e1 : MapEntry), es1.toList[j]? = some e1 → e1.key = x → ∀ (w2 : World) (val : Value), w2.heap[b]? = some (.map es1 c1) →
   ∃ w3 L3, Stored (es1.toList.map fun e => (e.key, e.val)) x val L3 ∧ (Instr.entryStore t (.map (some b)) (.int .i64 (e1.born : Int)) val).run P w2 = .ok () w3 ∧ MB P k w3 b L3 ∧ Kp (· = b) w2 w3 ∧ w3.heap.size = w2.heap.size := by
  intro es1 c1 h1 h2 j e1 hj he w2 val hw2
  have hj' : es1[j]? = some e1 := by simpa using hj
  have hidx : es1.findIdx? (fun e => ((e.born : Nat) : Int) == ((e1.born : Nat) : Int)) = some j := by
   rw [findIdx_arr']
   exact findIdx_born' h1.2.1 hj
  have hrow : (es1.modify j fun e => { e with val := val }).toList = es1.toList.set j { e1 with val := val } := by rw [Array.toList_modify, modify_set' _ _ _ _ hj]
  refine ⟨setBlock w2 b (.map (es1.modify j fun e => { e with val := val }) c1), _, .old j e1.val (by rw [List.getElem?_map, hj]; simp [he]), ?_, ⟨_, _, heap_setBlock_same hw2 _, stamped_modify h1 j _ (fun _ _ => rfl) (fun y _ _ => rfl), ?_, ?_⟩, ⟨rfl, rfl, rfl, by simp [setBlock], fun i _ hi => heap_setBlock_other hw2 _ hi⟩, by simp [setBlock]⟩
  ·
   simp [Instr.entryStore, MapKept.run_getObj_map hw2, asInt, asIntOf, hidx, MapKept.run_setObj_map _ hw2, Result.andThen, setBlock]
  ·
   intro y hy
   rw [hrow] at hy
   rcases List.mem_or_eq_of_mem_set hy with hy | rfl
   ·
    exact h2 y hy
   ·
    exact h2 e1 (List.mem_of_getElem? hj)
  ·
   rw [hrow, List.map_set, ← he]
 rcases K.find w hx es.toList hk with ⟨f1, f2⟩ | ⟨j, e0, f1, f2, f3⟩
 ·
  have hst' := stamped_push (key := x) (val := z) hst (fun y hy => f2 y hy)
  have hk' : ∀ y ∈ (es.push { key := x, val := z, born := clock }).toList, ∃ l, keyOf P k y.key = some l := by
   intro y hy
   simp only [Array.toList_push, List.mem_append, List.mem_singleton] at hy
   rcases hy with hy | rfl
   ·
    exact hk y hy
   ·
    exact ⟨lx, hx⟩
  refine ⟨z, clock, setBlock w b (.map (es.push { key := x, val := z, born := clock }) (clock + 1)), _, .inr ⟨by intro p hp; obtain ⟨y, hy, rfl⟩ := List.mem_map.1 hp; exact f2 y hy, rfl, rfl⟩, ?_, ⟨_, _, heap_setBlock_same hb _, hst', hk', by simp⟩, kp _, by simp [setBlock], fun w2 val hw2 => ?_⟩
  ·
   simp [Instr.mapEntry, run_underlying ht, MapKept.run_getObj_map hb, K.check w _ hx, f1, hzv, MapKept.run_setObj_map _ hb, Result.andThen, setBlock, goInt]
  ·
   have h9 := store _ _ hst' hk' es.size ⟨x, z, clock⟩ (by simp) rfl w2 val (by rw [hw2]; exact heap_setBlock_same hb _)
   simpa using h9
 ·
  have f2' : es[j]? = some e0 := by simpa using f2
  have hsame : es.modify j (fun e => { e with key := x }) = es := by
   apply Array.ext'
   rw [Array.toList_modify, modify_set' _ _ _ _ f2]
   have : ({ e0 with key := x } : MapEntry) = e0 := by rw [← f3]
   rw [this]
   exact List.ext_getElem? (fun i => by
    rw [List.getElem?_set]
    by_cases hij : j = i
    ·
     subst hij
     have hjs := (List.getElem?_eq_some_iff.1 f2).1
     rw [if_pos rfl, if_pos hjs, f2]
    ·
     rw [if_neg hij])
  have hkey : ((es[j]?.map (·.key)).getD x) = x := by rw [f2']; simp [f3]
  have hborn : ((es[j]?.map (fun x => (x.born : Int))).getD 0) = (e0.born : Int) := by rw [f2']; simp
  refine ⟨e0.val, e0.born, setBlock w b (.map es clock), _, .inl ⟨j, by rw [List.getElem?_map, f2]; simp [f3], rfl⟩, ?_, ⟨_, _, heap_setBlock_same hb _, hst, hk, rfl⟩, kp _, by simp [setBlock], fun w2 val hw2 => store es clock hst hk j e0 f2 f3 w2 val (by rw [hw2]; exact heap_setBlock_same hb _)⟩
  simp only [Instr.mapEntry, Sem.run_bind, run_underlying ht, MapKept.run_getObj_map hb, K.check w _ hx, f1, Result.andThen_ok, hkey, hborn, K.stays w hx, hsame, MapKept.run_setObj_map _ hb]
  rfl
end

/-- Block b is a map in which the key enc x reads as g x: z where there is no entry. -/
def MG {κ : Type} (P : Program) (k : TypeId) (enc : κ → Value) (z : Value) (w : World) (b : Nat) (g : κ → Value) : Prop :=
 ∃ f, MF P k enc w b f ∧ ∀ x, (f x).getD z = g x
section
variable {κ : Type} {P : Program} {k : TypeId} {enc : κ → Value} {z : Value} {w w' : World} {b : Nat} {g : κ → Value} {f : κ → Option Value}
theorem MG.lt (h : MG P k enc z w b g) : b < w.heap.size := let ⟨_, h1, _⟩ := h; h1.lt
theorem MG.kept (h : MG P k enc z w b g) (hb : Below w.heap.size w w') : MG P k enc z w' b g := let ⟨f, h1, h2⟩ := h; ⟨f, h1.kept hb, h2⟩
theorem MG.kp {S : Nat → Prop} (h : MG P k enc z w b g) (hb : Kp S w w') (hn : ¬ S b) : MG P k enc z w' b g := let ⟨f, h1, h2⟩ := h; ⟨f, h1.kp hb hn, h2⟩
theorem MG.new (h : MF P k enc w b (fun _ => none)) : MG P k enc z w b (fun _ => z) := ⟨_, h, fun _ => rfl⟩
theorem MG.to (h : MG P k enc z w b g) {g' : κ → Value} (e : ∀ x, g x = g' x) : MG P k enc z w b g' := by
 obtain ⟨f, h1, h2⟩ := h
 exact ⟨f, h1, fun x => by rw [h2, e]⟩
theorem MF.to (h : MF P k enc w b f) {f' : κ → Option Value} (e : ∀ x, f x = f' x) : MF P k enc w b f' := by
 obtain ⟨L, h1, h2, h3⟩ := h
 exact ⟨L, h1, fun x v => by rw [h2, e], h3⟩
theorem MG.stored [DecidableEq κ] (hinj : ∀ x y, enc x = enc y → x = y) {L L' : List (Value × Value)} (hn : (L.map (·.1)).Nodup) (h2 : ∀ x v, (enc x, v) ∈ L ↔ f x = some v) (h3 : ∀ p ∈ L, ∃ x, p.1 = enc x) (hg : ∀ x, (f x).getD z = g x) {x : κ} {v : Value} (h : Stored L (enc x) v L') {w' : World} (hm : MB P k w' b L') :
  MG P k enc z w' b (fun y => if y = x then v else g y) := by
 obtain ⟨r1, r2⟩ := mf_stored hinj hn h2 h3 h
 refine ⟨fun y => if y = x then some v else f y, ⟨L', hm, r1, r2⟩, fun y => ?_⟩
 by_cases hy : y = x
 ·
  simp [hy]
 ·
  simp only [if_neg hy]; exact hg y
end

section
variable {κ : Type} {P : Program} (w : World) {ops : Array Oper} {rest : List Oper} {o : Oper} {a : Act} {Q : Exit → Act → World → Prop} {enc : κ → Value} {K' : Act → World → Prop}
variable [DecidableEq κ]
end
section
variable {P : Program} (w : World) {o : Oper} {a : Act} {Q : Exit → Act → World → Prop} {K' : Act → World → Prop}
end
end Go.Proofs.YtheijpjfpaghfaaGreatDoor
