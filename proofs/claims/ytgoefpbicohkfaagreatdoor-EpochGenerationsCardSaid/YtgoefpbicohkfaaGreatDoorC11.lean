/- Several texts in one: Map, Mf, Text3, Gen. -/
import Derived.Test.YtgoefpbicohkfaaGreatDoorC2
import Derived.Maps.OwnSet
import Derived.Test.YtgoefpbicohkfaaGreatDoorC3
import Derived.Test.YtgoefpbicohkfaaGreatDoorC10
/- Maps of the call's own, as lists of keys with values; look-ups and stores as laws at the operation. Proved for any program. -/
namespace Go.Proofs.YtgoefpbicohkfaaGreatDoor
open Go Go.RowKit Go.ChangeMaps Go.MapKept Gf
open Go.Maps (Keyed)

/-- Block b is a map with just the entries L. -/
def MB (P : Program) (k : TypeId) (w : World) (b : Nat) (L : List (Value × Value)) : Prop :=
  ∃ es clock, w.heap[b]? = some (.map es clock) ∧ Stamped es clock ∧ (∀ x ∈ es.toList, ∃ l, keyOf P k x.key = some l) ∧ es.toList.map (fun e => (e.key, e.val)) = L

section
variable {P : Program} {k : TypeId} {w w' : World} {b : Nat} {L : List (Value × Value)}
theorem MB.lt (h : MB P k w b L) : b < w.heap.size := by
  obtain ⟨es, clock, hb, _⟩ := h
  exact (Array.getElem?_eq_some_iff.1 hb).1
theorem MB.kept (h : MB P k w b L) (hb : Below w.heap.size w w') : MB P k w' b L := by
  have hl := h.lt
  obtain ⟨es, clock, h1, h2⟩ := h
  exact ⟨es, clock, (hb.block b hl).trans h1, h2⟩
theorem MB.kp {S : Nat → Prop} (h : MB P k w b L) (hb : Kp S w w') (hn : ¬ S b) : MB P k w' b L := by
  have hl := h.lt
  obtain ⟨es, clock, h1, h2⟩ := h
  exact ⟨es, clock, (hb.block b hl hn).trans h1, h2⟩
theorem MB.drew (h : MB P k w b L) : MB P k w.drew b L := h
theorem MB.drewN (h : MB P k w b L) (n : Nat) : MB P k (w.drewN n) b L := h
theorem MB.new (P : Program) (k : TypeId) (w : World) : MB P k (w.alloc (.map #[] 0)) w.heap.size [] :=
  ⟨#[], 0, (MapKept.heap_alloc w _).1, stamped_empty 0, by simp, rfl⟩
theorem MB.nodup (h : MB P k w b L) : (L.map (·.1)).Nodup := by
  obtain ⟨es, clock, _, h2, _, rfl⟩ := h
  rw [List.map_map]
  exact h2.2.2

theorem run_makeMap' (t : TypeId) (w : World) : (Instr.makeMap t none).run P w = .ok (.map (some w.heap.size)) (w.alloc (.map #[] 0)) := rfl

/-- The value of a key, the zero value where there is none. -/
inductive Found (L : List (Value × Value)) (x z : Value) : Value → Bool → Prop
  | yes (i : Nat) (v : Value) (h : L[i]? = some (x, v)) : Found L x z v true
  | no (h : ∀ p ∈ L, p.1 ≠ x) : Found L x z z false

theorem MB.look {t e : TypeId} (h : MB P k w b L) (K : Keyed P k) (ht : P.underlying t = some (.map k e)) {z : Value} (hz : (P.info? e).map (·.zero) = some (some z)) {x : Value} {lx : Lit} (hx : keyOf P k x = some lx) (c : Bool) :
    ∃ v f, Found L x z v f ∧ (Instr.lookup t (.map (some b)) x c).run P w = .ok (if c then .tuple #[v, .bool f] else v) w := by
  obtain ⟨es, clock, hb, _, hk, rfl⟩ := h
  have hzv : (zeroValue e).run P w = .ok z w := by
    cases hi : P.info? e with
    | none => simp [hi] at hz
    | some i =>
      have hz' : i.zero = some z := by simpa [hi] using hz
      simp [zeroValue, typeInfo, hi, hz']
  rcases K.find w hx es.toList hk with ⟨f1, f2⟩ | ⟨j, e0, f1, f2, f3⟩
  · refine ⟨z, false, .no (by intro p hp; obtain ⟨y, hy, rfl⟩ := List.mem_map.1 hp; exact f2 y hy), ?_⟩
    simp [Instr.lookup, run_underlying ht, MapKept.run_getObj_map hb, K.check w _ hx, f1, hzv, Result.andThen]
  · refine ⟨e0.val, true, .yes j e0.val (by rw [List.getElem?_map, f2]; simp [f3]), ?_⟩
    simp [Instr.lookup, run_underlying ht, MapKept.run_getObj_map hb, K.check w _ hx, f1, Result.andThen]

/-- The list behind a store. -/
inductive Stored (L : List (Value × Value)) (x v : Value) : List (Value × Value) → Prop
  | old (i : Nat) (u : Value) (h : L[i]? = some (x, u)) : Stored L x v (L.set i (x, v))
  | new (h : ∀ p ∈ L, p.1 ≠ x) : Stored L x v (L ++ [(x, v)])

theorem MB.store {t e : TypeId} (h : MB P k w b L) (K : Keyed P k) (ht : P.underlying t = some (.map k e)) {x : Value} {lx : Lit} (hx : keyOf P k x = some lx) (v : Value) :
    ∃ w' L', Stored L x v L' ∧ (Instr.mapUpdate t (.map (some b)) x v).run P w = .ok () w' ∧ MB P k w' b L' ∧ Kp (· = b) w w' ∧ w'.heap.size = w.heap.size := by
  obtain ⟨es, clock, hb, hst, hk, rfl⟩ := h
  have kp : ∀ o, Kp (· = b) w (setBlock w b o) := fun o => ⟨rfl, rfl, rfl, by simp [setBlock], fun i _ hi => heap_setBlock_other hb o hi⟩
  rcases K.find w hx es.toList hk with ⟨f1, f2⟩ | ⟨j, e0, f1, f2, f3⟩
  · refine ⟨setBlock w b (.map (es.push { key := x, val := v, born := clock }) (clock + 1)), _, .new (by intro p hp; obtain ⟨y, hy, rfl⟩ := List.mem_map.1 hp; exact f2 y hy), ?_, ⟨_, _, heap_setBlock_same hb _, stamped_push hst (fun y hy => f2 y hy), ?_, ?_⟩, kp _, by simp [setBlock]⟩
    · simp [Instr.mapUpdate, run_underlying ht, MapKept.run_getObj_map hb, K.check w _ hx, f1, MapKept.run_setObj_map _ hb, Result.andThen, setBlock]
    · intro y hy
      simp only [Array.toList_push, List.mem_append, List.mem_singleton] at hy
      rcases hy with hy | rfl
      · exact hk y hy
      · exact ⟨lx, hx⟩
    · simp
  · have f2' : es[j]? = some e0 := by simpa using f2
    have hkey : ((es[j]?.map (·.key)).getD x) = x := by rw [f2']; simp [f3]
    refine ⟨setBlock w b (.map (es.modify j fun e => { e with key := x, val := v }) clock), _, .old j e0.val (by rw [List.getElem?_map, f2]; simp [f3]), ?_, ⟨_, _, heap_setBlock_same hb _, stamped_modify hst j _ (fun _ _ => rfl) (fun y _ hj => by rw [f2'] at hj; cases hj; exact f3.symm), ?_, ?_⟩, kp _, by simp [setBlock]⟩
    · simp only [Instr.mapUpdate, Sem.run_bind, run_underlying ht, MapKept.run_getObj_map hb, K.check w _ hx, f1, Result.andThen_ok, hkey, K.stays w hx, MapKept.run_setObj_map _ hb]
      rfl
    · intro y hy
      obtain ⟨i, hi, rfl⟩ := List.mem_iff_getElem.1 hy
      by_cases hij : j = i
      · subst hij
        refine ⟨lx, ?_⟩
        simp only [Array.length_toList, Array.size_modify] at hi
        simp [hx]
      · simp only [Array.length_toList, Array.size_modify] at hi
        have := hk es[i] (by simp)
        simpa [Array.getElem_modify, hij] using this
    · apply List.ext_getElem?
      intro i
      rw [List.getElem?_map, Array.getElem?_toList, Array.getElem?_modify, List.getElem?_set]
      by_cases hij : j = i
      · subst hij
        have hjs : j < es.size := (Array.getElem?_eq_some_iff.1 f2').1
        simp [hjs]
      · simp [hij]
end

section
variable {P : Program} (w : World) {ops : Array Oper} {rest : List Oper} {o : Oper} {a : Act} {Q : Exit → Act → World → Prop}
theorem wpList_makeMap (hg : o.guard = none) (t k : TypeId) (hop : o.op = .makeMap t none)
    (h : ∀ w', MB P k w' w.heap.size [] → Below w.heap.size w w' → w'.heap.size = w.heap.size + 1 → wpList P ops Q rest (a.put o.dst (.map (some w.heap.size))) w') : wpList P ops Q (o :: rest) a w :=
  wpList_plain hg fun K hK => by
    unfold Oper.wp execOp
    simp only [hop]
    simp [run_makeMap', Result.andThen]
    exact hK _ _ (h _ (MB.new P k w) ((Below.refl _ _).alloc (Nat.le_refl _) _) (by simp))
theorem wpList_look (hg : o.guard = none) (m x : Operand) (t k e : TypeId) (hop : o.op = .lookup t m x false) (K : Keyed P k) (ht : P.underlying t = some (.map k e)) (z : Value) (hz : (P.info? e).map (·.zero) = some (some z))
    (b : Nat) (L : List (Value × Value)) (hm : a.eval m = .map (some b)) (hb : MB P k w b L) (xv : Value) (hx : a.eval x = xv) (hk : ∃ lx, keyOf P k xv = some lx)
    (h : ∀ v f, Found L xv z v f → wpList P ops Q rest (a.put o.dst v) w) : wpList P ops Q (o :: rest) a w :=
  wpList_plain hg fun K' hK' => by
    obtain ⟨lx, hlx⟩ := hk
    obtain ⟨v, f, hf, hr⟩ := hb.look K ht hz hlx false
    unfold Oper.wp execOp
    simp only [hop, hm, hx]
    simp [hr, Result.andThen]
    exact hK' _ _ (h v f hf)
theorem wpList_lookok (hg : o.guard = none) (m x : Operand) (t k e : TypeId) (hop : o.op = .lookup t m x true) (K : Keyed P k) (ht : P.underlying t = some (.map k e)) (z : Value) (hz : (P.info? e).map (·.zero) = some (some z))
    (b : Nat) (L : List (Value × Value)) (hm : a.eval m = .map (some b)) (hb : MB P k w b L) (xv : Value) (hx : a.eval x = xv) (hk : ∃ lx, keyOf P k xv = some lx)
    (h : ∀ v f, Found L xv z v f → wpList P ops Q rest (a.put o.dst (.tuple #[v, .bool f])) w) : wpList P ops Q (o :: rest) a w :=
  wpList_plain hg fun K' hK' => by
    obtain ⟨lx, hlx⟩ := hk
    obtain ⟨v, f, hf, hr⟩ := hb.look K ht hz hlx true
    unfold Oper.wp execOp
    simp only [hop, hm, hx]
    simp [hr, Result.andThen]
    exact hK' _ _ (h v f hf)
theorem wpList_upd (hg : o.guard = none) (m x v : Operand) (t k e : TypeId) (hop : o.op = .mapUpdate t m x v) (K : Keyed P k) (ht : P.underlying t = some (.map k e))
    (b : Nat) (L : List (Value × Value)) (hm : a.eval m = .map (some b)) (hb : MB P k w b L) (xv vv : Value) (hx : a.eval x = xv) (hv : a.eval v = vv) (hk : ∃ lx, keyOf P k xv = some lx)
    (h : ∀ w' L', Stored L xv vv L' → MB P k w' b L' → Kp (· = b) w w' → w'.heap.size = w.heap.size → wpList P ops Q rest (a.put o.dst undef) w') : wpList P ops Q (o :: rest) a w :=
  wpList_plain hg fun K' hK' => by
    obtain ⟨lx, hlx⟩ := hk
    obtain ⟨w', L', hs, hr, h1, h2, h3⟩ := hb.store K ht hlx vv
    unfold Oper.wp execOp
    simp only [hop, hm, hx, hv]
    simp [hr, Result.andThen]
    exact hK' _ _ (h w' L' hs h1 h2 h3)
end
end Go.Proofs.YtgoefpbicohkfaaGreatDoor
/- Maps of the call's own as functions from keys to values. For any program. -/
namespace Go.Proofs.YtgoefpbicohkfaaGreatDoor
open Go Go.RowKit Go.ChangeMaps Go.MapKept Gf
open Go.Maps (Keyed)

/-- Block b is a map that has for the key enc x the value f x, where there is one, and no other keys. -/
def MF {κ : Type} (P : Program) (k : TypeId) (enc : κ → Value) (w : World) (b : Nat) (f : κ → Option Value) : Prop :=
  ∃ L, MB P k w b L ∧ (∀ x v, (enc x, v) ∈ L ↔ f x = some v) ∧ ∀ p ∈ L, ∃ x, p.1 = enc x

section
variable {κ : Type} {P : Program} {k : TypeId} {enc : κ → Value} {w w' : World} {b : Nat} {f : κ → Option Value}
theorem MF.lt (h : MF P k enc w b f) : b < w.heap.size := let ⟨_, h1, _⟩ := h; h1.lt
theorem MF.kept (h : MF P k enc w b f) (hb : Below w.heap.size w w') : MF P k enc w' b f := let ⟨L, h1, h2⟩ := h; ⟨L, h1.kept hb, h2⟩
theorem MF.kp {S : Nat → Prop} (h : MF P k enc w b f) (hb : Kp S w w') (hn : ¬ S b) : MF P k enc w' b f := let ⟨L, h1, h2⟩ := h; ⟨L, h1.kp hb hn, h2⟩
theorem MF.new (h : MB P k w b []) : MF P k enc w b (fun _ => none) := ⟨[], h, (fun x v => by simp), (fun p hp => by cases hp)⟩
theorem keys_one {L : List (Value × Value)} (h : (L.map (·.1)).Nodup) {x u v : Value} (h1 : (x, u) ∈ L) (h2 : (x, v) ∈ L) : u = v := by
  induction L with
  | nil => cases h1
  | cons p L ih =>
    rw [List.map_cons, List.nodup_cons] at h
    rcases List.mem_cons.1 h1 with e1 | k1 <;> rcases List.mem_cons.1 h2 with e2 | k2
    · rw [← e1] at e2; injection e2 with _ e; exact e.symm
    · subst e1; exact (h.1 (List.mem_map.2 ⟨(x, v), k2, rfl⟩)).elim
    · subst e2; exact (h.1 (List.mem_map.2 ⟨(x, u), k1, rfl⟩)).elim
    · exact ih h.2 k1 k2
theorem mf_found {L : List (Value × Value)} (h2 : ∀ x v, (enc x, v) ∈ L ↔ f x = some v) {x : κ} {z v : Value} {fl : Bool} (h : Found L (enc x) z v fl) : v = (f x).getD z ∧ fl = (f x).isSome := by
  cases h with
  | yes i v h =>
    have := (h2 x v).1 (List.mem_of_getElem? h)
    rw [this]; exact ⟨rfl, rfl⟩
  | no h =>
    have : f x = none := by
      cases hf : f x with
      | none => rfl
      | some u => exact absurd rfl (h _ ((h2 x u).2 hf))
    rw [this]; exact ⟨rfl, rfl⟩
theorem mf_stored [DecidableEq κ] (hinj : ∀ x y, enc x = enc y → x = y) {L L' : List (Value × Value)} (hn : (L.map (·.1)).Nodup) (h2 : ∀ x v, (enc x, v) ∈ L ↔ f x = some v) (h3 : ∀ p ∈ L, ∃ x, p.1 = enc x) {x : κ} {v : Value} (h : Stored L (enc x) v L') :
    (∀ y u, (enc y, u) ∈ L' ↔ (if y = x then some v else f y) = some u) ∧ ∀ p ∈ L', ∃ y, p.1 = enc y := by
  cases h with
  | new h =>
    refine ⟨fun y u => ?_, fun p hp => ?_⟩
    · rw [List.mem_append, List.mem_singleton]
      by_cases hy : y = x
      · subst hy
        rw [if_pos rfl]
        constructor
        · rintro (h9 | h9)
          · exact absurd rfl (h _ h9)
          · injection h9 with _ h9; rw [h9]
        · intro h9; injection h9 with h9; rw [h9]; exact .inr rfl
      · rw [if_neg hy, ← h2]
        constructor
        · rintro (h9 | h9)
          · exact h9
          · injection h9 with h9 _; exact absurd (hinj _ _ h9) hy
        · exact .inl
    · rcases List.mem_append.1 hp with hp | hp
      · exact h3 p hp
      · rw [List.mem_singleton.1 hp]; exact ⟨x, rfl⟩
  | old i u0 h =>
    obtain ⟨hi, hu⟩ := List.getElem?_eq_some_iff.1 h
    have hmem : ∀ q, q ∈ L.set i (enc x, v) ↔ q = (enc x, v) ∨ (q ∈ L ∧ q.1 ≠ enc x) := by
      intro q
      constructor
      · intro hq
        obtain ⟨j, hj, e⟩ := List.getElem_of_mem hq
        rw [List.length_set] at hj
        by_cases hij : i = j
        · subst hij; rw [List.getElem_set_self] at e; exact .inl e.symm
        · rw [List.getElem_set_ne hij] at e
          refine .inr ⟨by rw [← e]; exact List.getElem_mem hj, fun hk => hij ?_⟩
          have hp := List.pairwise_iff_getElem.1 (show (L.map (·.1)).Pairwise (· ≠ ·) from hn)
          rcases Nat.lt_trichotomy i j with hlt | he | hlt
          · exact absurd (by rw [List.getElem_map, List.getElem_map, hu, e]; exact hk.symm) (hp i j (by simpa using hi) (by simpa using hj) hlt)
          · exact he
          · exact absurd (by rw [List.getElem_map, List.getElem_map, hu, e]; exact hk) (hp j i (by simpa using hj) (by simpa using hi) hlt)
      · rintro (rfl | ⟨hq, hne⟩)
        · exact List.mem_iff_getElem.2 ⟨i, by rw [List.length_set]; exact hi, List.getElem_set_self _⟩
        · obtain ⟨j, hj, e⟩ := List.getElem_of_mem hq
          have hij : i ≠ j := fun e9 => by subst e9; rw [hu] at e; rw [← e] at hne; exact hne rfl
          exact List.mem_iff_getElem.2 ⟨j, by rw [List.length_set]; exact hj, by rw [List.getElem_set_ne hij]; exact e⟩
    refine ⟨fun y u => ?_, fun p hp => ?_⟩
    · rw [hmem]
      by_cases hy : y = x
      · subst hy
        rw [if_pos rfl]
        constructor
        · rintro (h9 | ⟨_, h9⟩)
          · injection h9 with _ h9; rw [h9]
          · exact absurd rfl h9
        · intro h9; injection h9 with h9; rw [h9]; exact .inl rfl
      · rw [if_neg hy, ← h2]
        constructor
        · rintro (h9 | h9)
          · injection h9 with h9 _; exact absurd (hinj _ _ h9) hy
          · exact h9.1
        · intro h9; exact .inr ⟨h9, fun e => hy (hinj _ _ e)⟩
    · rcases (hmem p).1 hp with rfl | hp
      · exact ⟨x, rfl⟩
      · exact h3 p hp.1
end

section
variable {κ : Type} {P : Program} (w : World) {ops : Array Oper} {rest : List Oper} {o : Oper} {a : Act} {Q : Exit → Act → World → Prop} {enc : κ → Value}
theorem wpList_makeF (hg : o.guard = none) (t k : TypeId) (hop : o.op = .makeMap t none)
    (h : ∀ w', MF P k enc w' w.heap.size (fun _ => none) → Below w.heap.size w w' → w'.heap.size = w.heap.size + 1 → wpList P ops Q rest (a.put o.dst (.map (some w.heap.size))) w') : wpList P ops Q (o :: rest) a w :=
  wpList_makeMap w hg t k hop (fun w' h1 => h w' (MF.new h1))
theorem wpList_lookF (hg : o.guard = none) (m x : Operand) (t k e : TypeId) (hop : o.op = .lookup t m x false) (K : Keyed P k) (ht : P.underlying t = some (.map k e)) (z : Value) (hz : (P.info? e).map (·.zero) = some (some z))
    (b : Nat) (f : κ → Option Value) (hm : a.eval m = .map (some b)) (hb : MF P k enc w b f) (xv : κ) (hx : a.eval x = enc xv) (hk : ∃ lx, keyOf P k (enc xv) = some lx)
    (h : wpList P ops Q rest (a.put o.dst ((f xv).getD z)) w) : wpList P ops Q (o :: rest) a w := by
  obtain ⟨L, h1, h2, _⟩ := hb
  refine wpList_look w hg m x t k e hop K ht z hz b L hm h1 _ hx hk (fun v fl hf => ?_)
  rw [(mf_found h2 hf).1]; exact h
theorem wpList_lookokF (hg : o.guard = none) (m x : Operand) (t k e : TypeId) (hop : o.op = .lookup t m x true) (K : Keyed P k) (ht : P.underlying t = some (.map k e)) (z : Value) (hz : (P.info? e).map (·.zero) = some (some z))
    (b : Nat) (f : κ → Option Value) (hm : a.eval m = .map (some b)) (hb : MF P k enc w b f) (xv : κ) (hx : a.eval x = enc xv) (hk : ∃ lx, keyOf P k (enc xv) = some lx)
    (h : wpList P ops Q rest (a.put o.dst (.tuple #[(f xv).getD z, .bool (f xv).isSome])) w) : wpList P ops Q (o :: rest) a w := by
  obtain ⟨L, h1, h2, _⟩ := hb
  refine wpList_lookok w hg m x t k e hop K ht z hz b L hm h1 _ hx hk (fun v fl hf => ?_)
  rw [(mf_found h2 hf).1, (mf_found h2 hf).2]; exact h
theorem wpList_updF [DecidableEq κ] (hinj : ∀ x y, enc x = enc y → x = y) (hg : o.guard = none) (m x v : Operand) (t k e : TypeId) (hop : o.op = .mapUpdate t m x v) (K : Keyed P k) (ht : P.underlying t = some (.map k e))
    (b : Nat) (f : κ → Option Value) (hm : a.eval m = .map (some b)) (hb : MF P k enc w b f) (xv : κ) (vv : Value) (hx : a.eval x = enc xv) (hv : a.eval v = vv) (hk : ∃ lx, keyOf P k (enc xv) = some lx)
    (h : ∀ w', MF P k enc w' b (fun y => if y = xv then some vv else f y) → Kp (· = b) w w' → w'.heap.size = w.heap.size → wpList P ops Q rest (a.put o.dst undef) w') : wpList P ops Q (o :: rest) a w := by
  obtain ⟨L, h1, h2, h3⟩ := hb
  refine wpList_upd w hg m x v t k e hop K ht b L hm h1 _ vv hx hv hk (fun w' L' hs h4 h5 h6 => ?_)
  obtain ⟨r1, r2⟩ := mf_stored hinj h1.nodup h2 h3 hs
  exact h w' ⟨L', h4, r1, r2⟩ h5 h6
end
end Go.Proofs.YtgoefpbicohkfaaGreatDoor
/- A guarded effect in a text whose guard is met. -/
namespace Go.Proofs.YtgoefpbicohkfaaGreatDoor
open Go
namespace Text
variable {P : Program} {ops : Array Oper} {Q : Exit → Act → World → Prop} {S : World → Prop} {a : Act} {w : World} {r : List (Nat × Nat)} {i : Nat}
theorem effw {o : Oper} (ho : ops[i]? = some o) (hw : Region.wanted o (yielded ops a.tmps) = true) (h : ∀ K : Act → World → Prop, (∀ a w, S w → wpText P ops Q S r a w → K a w) → o.wp P a w K NoQ) : wpText P ops Q S ((i, 2) :: r) a w := by
  have key : wpOp P ops Q i (fun a' w' => S w' ∧ wpText P ops Q S r a' w') a w := by
    unfold wpOp
    simp only [ho]
    rw [if_pos hw]
    exact .inl (wp_of_noQ (h _ fun _ _ h1 h2 => ⟨h1, h2⟩))
  with_unfolding_all exact key
theorem lastw {o : Oper} (ho : ops[i]? = some o) (hw : Region.wanted o (yielded ops a.tmps) = true) (h : ∀ K : Act → World → Prop, (∀ a w, wpText P ops Q S r a w → K a w) → o.wp P a w K NoQ) : wpText P ops Q S ((i, 3) :: r) a w := by
  have key : wpOp P ops Q i (fun a' w' => wpText P ops Q S r a' w') a w := by
    unfold wpOp
    simp only [ho]
    rw [if_pos hw]
    exact .inl (wp_of_noQ (h _ fun _ _ h2 => h2))
  with_unfolding_all exact key
end Text
end Go.Proofs.YtgoefpbicohkfaaGreatDoor
/- Rows, lists of strings: what speaks of no chapter. -/
namespace Go.Proofs.YtgoefpbicohkfaaGreatDoor
open Go Go.RowKit Gf Sha

def usC (x : List UInt8) : Value := .string (strB x)
def nilV : Value := .slice none 0 0
theorem usC_inj {x y : List UInt8} (h : usC x = usC y) : x = y := by
  unfold usC at h
  injection h with h
  exact strB_inj h
theorem bslS (s : List UInt8) (w : World) : (Instr.buildSlice 25 1 #[(0, .string (strB s))]).run Tryz.prog w = .ok (.slice (some ⟨w.heap.size, 0, none⟩) 1 1) (w.alloc (.cells [.string (strB s)].toArray 9)) := by kernel_rfl
theorem one_sl (A : Option Addr) (n c : Nat) : ∀ v ∈ ([.slice A n c] : List Value), v.oneCell' = true := by
  intro v hv; simp only [List.mem_singleton] at hv; subst hv; rfl
theorem one_st (s : List UInt8) : ∀ v ∈ ([.string (strB s)] : List Value), v.oneCell' = true := by
  intro v hv; simp only [List.mem_singleton] at hv; subst hv; rfl
section
variable {P : Program} {w : World} {o : Oper} {a : Act} {Q : Exit → Act → World → Prop} {K : Act → World → Prop}
theorem exec_loadv (t : TypeId) (x : Operand) (hop : o.op = .load t x) (n : Nat) (ht : Agg P t n = true) (g p : Nat) (ms : List Value) (hx : a.eval x = .pointer (some ⟨g, p, none⟩))
    (hm : At w g p ms) (hn : ms.length = n) : (execOp a.eval o).run P w = .ok (.value (.agg ms.toArray)) w := by
  unfold execOp
  simp only [hop, hx]
  simp [run_loadAt w ht hm hn, Result.andThen]
theorem exec_look (m x : Operand) (t k e : TypeId) (hop : o.op = .lookup t m x false) (Kd : Go.Maps.Keyed P k) (ht : P.underlying t = some (.map k e)) (z : Value) (hz : (P.info? e).map (·.zero) = some (some z))
    (b : Nat) (L : List (Value × Value)) (hm : a.eval m = .map (some b)) (hb : MB P k w b L) (xv : Value) (hx : a.eval x = xv) (hk : ∃ lx, keyOf P k xv = some lx) (u : Value) (hu : ∀ v f, Found L xv z v f → v = u) :
    (execOp a.eval o).run P w = .ok (.value u) w := by
  obtain ⟨lx, hlx⟩ := hk
  obtain ⟨v, f, hf, hr⟩ := hb.look Kd ht hz hlx false
  obtain rfl := hu v f hf
  unfold execOp
  simp only [hop, hm, hx]
  simp [hr, Result.andThen]
theorem wp_alloc (t : TypeId) (hop : o.op = .alloc t) (l : List Value) (hz : (P.info? t).map (·.zero) = some (some (.agg l.toArray)))
    (h : ∀ w', BL w' w.heap.size t l → Below w.heap.size w w' → w'.heap.size = w.heap.size + 1 → K (a.put o.dst (.pointer (some ⟨w.heap.size, 0, none⟩))) w') : o.wp P a w K Q := by
  cases hi : P.info? t with
  | none => simp [hi] at hz
  | some i =>
    have hz' : i.zero = some (.agg l.toArray) := by simpa [hi] using hz
    unfold Oper.wp execOp
    simp only [hop]
    simp [Instr.alloc, zeroValue, typeInfo, hi, hz', newVar, newRow, Value.cells, Result.andThen]
    exact h _ (BL.new w t l) ((Below.refl _ _).alloc (Nat.le_refl _) _) (by simp)
/-- A store of one cell into a block known whole. -/
theorem wpList_store1 (w : World) {ops : Array Oper} {rest : List Oper} (hg : o.guard = none) (t : TypeId) (x y : Operand) (hop : o.op = .store t x y) (hs : (sizeOf t).run P w = .ok 1 w) (g p : Nat) (te : TypeId) (l : List Value) (u : Value) (hx : a.eval x = .pointer (some ⟨g, p, none⟩)) (hy : a.eval y = u)
    (hb : BL w g te l) (hu : u.cells = #[u]) (h1 : u.oneCell' = true) (hp : p < l.length)
    (h : ∀ w', BL w' g te (l.set p u) → Kp (· = g) w w' → w'.heap.size = w.heap.size → wpList P ops Q rest (a.put o.dst undef) w') : wpList P ops Q (o :: rest) a w :=
  wpList_plain hg fun K hK => by
    obtain ⟨w', hr, hb', hk, hz⟩ := run_storeCells (P := P) [u] (by simpa using h1) p 1 0 l w rfl hb (by simp; omega)
    have e : l.take (p + 0) ++ [u].drop 0 ++ l.drop (p + [u].length) = l.set p u := by
      rw [List.set_eq_take_append_cons_drop, if_pos hp]
      simp
    rw [e] at hb'
    rw [List.drop_zero] at hr
    unfold Oper.wp execOp
    simp only [hop, hx, hy]
    simp [Instr.storeAt, Instr.sureAddr, storeVar, Sem.run_bind, hs, hu, hr, Result.andThen]
    exact hK _ _ (h w' hb' hk hz)
end

section
variable {w w' : World}
theorem BL.ty {g : Nat} {t t' : TypeId} {l l' : List Value} (h : BL w g t l) (h' : BL w g t' l') : t = t' := by
  have := h.symm.trans h'
  cases this; rfl
theorem RW.ty {te : TypeId} {n m : Nat} {v : Value} {l : List Value} (h : RW w te m v n l) {b : Nat} (hb : v.ownBlock = some b) : ∃ cs, BL w b te cs := by
  rcases h.2 with ⟨rfl, _⟩ | ⟨g, o, c, cs, rfl, hb', r⟩
  · cases hb
  · cases hb; exact ⟨cs, hb'⟩
end
theorem RW.of_own {w : World} {base : Nat} {te : TypeId} {s : Nat} {v : Value} {n : Nat} {l : List Value} (h : w.ownsRow base te s v n l) : RW w te s v n l ∧ ∀ b, v.ownBlock = some b → base ≤ b := by
  rcases h.2 with ⟨rfl, h0⟩ | ⟨g, cap, cur, rfl, h1, h2, h3, h4, h5, h6⟩
  · exact ⟨⟨h.1, .inl ⟨rfl, h0⟩⟩, fun b hb => by cases hb⟩
  · exact ⟨⟨h.1, .inr ⟨g, 0, cap, cur.toList, rfl, h2, h3, h4, by rw [Array.length_toList, h5]; omega, by rw [List.drop_zero]; exact h6⟩⟩, fun b hb => by cases hb; exact h1⟩
theorem At.elem {α : Type} {f : α → List Value} {s : Nat} (hf : ∀ x, (f x).length = s) {w : World} {g o : Nat} {l : List α} (h : At w g o (l.flatMap f)) {k : Nat} (hk : k < l.length) : At w g (o + k * s) (f l[k]) := by
  intro j v hj
  have hjl := (List.getElem?_eq_some_iff.1 hj).1
  have e := flat_split (f := f) l k hk
  have h1 : ((l.take k).flatMap f).length = k * s := by rw [flat_length hf, List.length_take, Nat.min_eq_left (by omega)]
  rw [Nat.add_assoc]
  refine h _ _ ?_
  rw [e, List.append_assoc, List.getElem?_append_right (by omega), h1, Nat.add_sub_cancel_left, List.getElem?_append_left hjl]
  exact hj
/-- A list of strings of the call's own. -/
def OwnS (w : World) (base : Nat) (v : Value) (n : Nat) (l : List (List UInt8)) : Prop := RW w 9 1 v n (l.map usC) ∧ ∀ b, v.ownBlock = some b → base ≤ b
section
variable {w : World} {o : Oper} {a : Act} {Q : Exit → Act → World → Prop} {K : Act → World → Prop}
theorem wp_bslice {P : Program} (t te : TypeId) (n : Nat) (parts : Array (Nat × Operand)) (hop : o.op = .buildSlice t n parts) (ps : Array (Nat × Value)) (hps : (parts.map fun (i, x) => (i, a.eval x)) = ps) (l : List Value)
    (hr : (Instr.buildSlice t n ps).run P w = .ok (.slice (some ⟨w.heap.size, 0, none⟩) n n) (w.alloc (.cells l.toArray te)))
    (h : ∀ w', BL w' w.heap.size te l → Below w.heap.size w w' → w'.heap.size = w.heap.size + 1 → K (a.put o.dst (.slice (some ⟨w.heap.size, 0, none⟩) n n)) w') : o.wp P a w K Q := by
  unfold Oper.wp execOp
  simp only [hop, hps]
  simp [hr, Result.andThen]
  exact h _ (BL.new w te l) ((Below.refl _ _).alloc (Nat.le_refl _) _) (by simp)
end
section
variable {P : Program} (w : World) {o : Oper} {a : Act} {Q : Exit → Act → World → Prop} {K : Act → World → Prop}
theorem wp_appRW (sl x : Operand) (t te : TypeId) (s : Nat) (i : TypeInfo) (z : Value) (hop : o.op = .call { callee := .builtin .append, args := #[sl, x], argTypes := #[t, t] })
    (ht : P.underlying t = some (.slice te)) (hi : P.info? te = some i) (hz : i.zero = some z) (hs : i.size = s) (hzs : z.cells.size = s) (v : Value) (n : Nat) (l : List Value) (hv : a.eval sl = v) (h : RW w te s v n l)
    (g : Nat) (xs : List Value) (hx : a.eval x = .slice (some ⟨g, 0, none⟩) 1 1) (hbl : BL w g te xs) (hxl : xs.length = s) (h1 : ∀ u ∈ xs, u.oneCell' = true) (hb : (n + 1) * i.bytes ≤ 140737488355328) (hn : n + 1 ≤ 140737488355328)
    (hK : ∀ v' w', AppR w te s v n 1 l xs v' w' → K (a.put o.dst v') w') : o.wp P a w K Q := by
  have hrow : RW w te s (.slice (some ⟨g, 0, none⟩) 1 1) 1 xs := RW.of_blk hbl (by omega) (by decide)
  have hsrc : Src P s t (.slice (some ⟨g, 0, none⟩) 1 1) 1 xs w := ⟨.inl ⟨_, ht⟩, fun _ => rfl, hrow.firstCells, RW.firstCells hrow.drew, by omega, h1⟩
  obtain ⟨v', w', hr, h2⟩ := run_appRW (rt := o.type) ht hi hz hs hzs h hsrc (by decide) hb hn
  unfold Oper.wp execOp
  simp only [hop, resolve, invoke, builtin, Sem.run_bind, Sem.run_pure, Result.andThen_ok, List.map_toArray, List.map_cons, List.map_nil, hv, hx, hr]
  exact hK _ _ h2
end
/-- Bytes of the call's own. -/
def OwnB (w : World) (base : Nat) (v : Value) (n : Nat) (x : List UInt8) : Prop := RW w 5 1 v n (x.map B) ∧ ∀ b, v.ownBlock = some b → base ≤ b
theorem OwnB.kept {w w' : World} {base n : Nat} {v : Value} {x : List UInt8} (h : OwnB w base v n x) (hb : Below w.heap.size w w') : OwnB w' base v n x := ⟨h.1.kept hb, h.2⟩
theorem OwnS.kept' {w w' : World} {base n : Nat} {v : Value} {x : List (List UInt8)} (h : OwnS w base v n x) (hb : Below w.heap.size w w') : OwnS w' base v n x := ⟨h.1.kept hb, h.2⟩
theorem BS.of_rw {w : World} {n : Nat} {A : Option Addr} {c : Nat} {x : List UInt8} (h : RW w 5 1 (.slice A n c) n (x.map B)) (hn : n ≤ lim) : BS w A n c x := by
  have hl : x.length = n := by have := h.1; simpa using this
  obtain ⟨A', c', e, hc⟩ := h.form
  cases e
  refine ⟨hl, hc, hn, fun k hk => ?_⟩
  obtain ⟨g, o, c', e, _, hat⟩ := h.at_ (by omega)
  cases e
  refine ⟨g, o, rfl, ?_⟩
  have := hat k _ (by rw [List.getElem?_map, List.getElem?_eq_getElem (by omega)]; rfl)
  show w.cell? ⟨g, o + k, none⟩ = some (B (gB x k))
  rw [gB_eq (by omega)]
  exact this
theorem TS.of_rw {w : World} {n : Nat} {A : Option Addr} {c : Nat} {m : List (List UInt8)} (h : RW w 9 1 (.slice A n c) n (m.map usC)) (hn : n * 16 ≤ lim) : TS w A n c m := by
  have hl : m.length = n := by have := h.1; simpa using this
  obtain ⟨A', c', e, hc⟩ := h.form
  cases e
  refine ⟨hl, hc, hn, fun k hk => ?_⟩
  obtain ⟨g, o, c', e, _, hat⟩ := h.at_ (by omega)
  cases e
  refine ⟨g, o, rfl, ?_⟩
  have := hat k _ (by rw [List.getElem?_map, List.getElem?_eq_getElem (by omega)]; rfl)
  show w.cell? ⟨g, o + k, none⟩ = some (.string (strB (gR m k)))
  rw [gR_eq (by omega)]
  exact this
/-- v holds the list L; whatever turns in v's own block, the parts read on. -/
def OLn {α : Type} (R : Rdg α) (s : Nat) (te : TypeId) (base : Nat) (w : World) (v : Value) (L : List α) : Prop :=
  ∃ css : List (List Value), css.length = L.length ∧ (∀ cs ∈ css, cs.length = s) ∧ (∀ w', Kp (fun b => v.ownBlock = some b) w w' → ∀ k (h : k < L.length) (h' : k < css.length), R w' css[k] L[k]) ∧ RW w te s v L.length css.flatten ∧ ∀ b, v.ownBlock = some b → base ≤ b
section
variable {α : Type} {R : Rdg α} {s base : Nat} {te : TypeId} {w w' : World} {v v' : Value} {L : List α}
theorem OLn.nil' {g : Nat} (R : Rdg α) (s : Nat) (h : BL w g te []) (hg : base ≤ g) : OLn R s te base w (.slice (some ⟨g, 0, none⟩) 0 0) [] :=
  ⟨[], rfl, (fun _ h => by cases h), (fun _ _ k h => absurd h (by simp)), RW.of_blk h (by simp) (by decide), (fun b hb => by cases hb; exact hg)⟩
theorem Kp.before {S : Nat → Prop} {w w1 w2 : World} (h : Below w.heap.size w w1) (k : Kp S w1 w2) : Kp S w w2 := (Kp.of_below h).trans k
theorem OLn.kept (h : OLn R s te base w v L) (hb : Below w.heap.size w w') : OLn R s te base w' v L :=
  let ⟨css, h1, h2, h3, h4, h5⟩ := h; ⟨css, h1, h2, fun w'' hk => h3 w'' (Kp.before hb hk), h4.kept hb, h5⟩
theorem OLn.push {n : Nat} {css : List (List Value)} (hl : css.length = L.length) (h2 : ∀ cs ∈ css, cs.length = s) (h3 : ∀ w', Kp (fun b => v.ownBlock = some b) w w' → ∀ k (h : k < L.length) (h' : k < css.length), R w' css[k] L[k]) (h5 : ∀ b, v.ownBlock = some b → base ≤ b) (hn : L.length = n)
    {x : α} {xs : List Value} (hxs : xs.length = s) (hx : ∀ w', Kp (fun b => v.ownBlock = some b) w w' → R w' xs x) (hw : base ≤ w.heap.size) (ap : AppR w te s v n 1 css.flatten xs v' w') : OLn R s te base w' v' (L ++ [x]) := by
  have hk : ∀ w'', Kp (fun b => v'.ownBlock = some b) w' w'' → Kp (fun b => v.ownBlock = some b) w w'' := fun w'' h => ap.kp.after h (fun i hi e => (ap.own i e).elim id (fun h => absurd h (by omega)))
  refine ⟨css ++ [xs], by simp [hl], fun cs hcs => ?_, fun w'' hk'' k hk1 hk2 => ?_, ?_, fun b hb => (ap.own b hb).elim (h5 b) (fun h => Nat.le_trans hw h)⟩
  · rcases List.mem_append.1 hcs with h | h
    · exact h2 cs h
    · rw [List.mem_singleton.1 h]; exact hxs
  · by_cases hlt : k < L.length
    · rw [List.getElem_append_left (by omega), List.getElem_append_left hlt]; exact h3 w'' (hk w'' hk'') k hlt (by omega)
    · have e : k = L.length := by simp at hk1; omega
      subst e
      rw [List.getElem_append_right (by omega), List.getElem_append_right (by omega)]
      simp only [hl, Nat.sub_self, List.getElem_cons_zero]
      exact hx w'' (hk w'' hk'')
  · have := ap.row
    rw [List.flatten_append, List.flatten_cons, List.flatten_nil, List.append_nil, List.length_append, hn]
    exact this
theorem OLn.ls {b : Nat} (h : OLn R s te base w v L) (hl : L.length * b ≤ lim) : ∃ A c, v = .slice A L.length c ∧ LS R s b w A L.length c L := by
  obtain ⟨css, h1, h2, h3, h4, h5⟩ := h
  obtain ⟨A, c, rfl, hc⟩ := h4.form
  refine ⟨A, c, rfl, rfl, hc, hl, fun k hk => ?_⟩
  obtain ⟨g, o, c', e, _, hat⟩ := h4.at_ (by omega)
  cases e
  have hk' : k < css.length := by omega
  exact ⟨g, o, css[k], rfl, at_flatten h2 hat hk', h3 w (Kp.refl _ _) k hk hk'⟩
end

/-- Block g holds the first of n elements, zeros behind them; whatever turns in it, the parts read on. -/
def BLn {α : Type} (R : Rdg α) (s : Nat) (te : TypeId) (z : List Value) (n : Nat) (w : World) (g : Nat) (L : List α) : Prop :=
  ∃ css : List (List Value), css.length = L.length ∧ (∀ cs ∈ css, cs.length = s) ∧ (∀ w', Kp (· = g) w w' → ∀ k (h : k < L.length) (h' : k < css.length), R w' css[k] L[k]) ∧ L.length ≤ n ∧ BL w g te (css.flatten ++ (List.replicate (n - L.length) ()).flatMap fun _ => z)
section
variable {α : Type} {R : Rdg α} {s n g : Nat} {te : TypeId} {z : List Value} {w w' : World} {L : List α}
theorem BLn.nil (R : Rdg α) (s : Nat) (h : BL w g te ((List.replicate n ()).flatMap fun _ => z)) : BLn R s te z n w g [] :=
  ⟨[], rfl, (fun _ h => by cases h), (fun _ _ k h => absurd h (by simp)), Nat.zero_le _, by simpa using h⟩
theorem BLn.kept (h : BLn R s te z n w g L) (hb : Below w.heap.size w w') : BLn R s te z n w' g L :=
  let ⟨css, h1, h2, h3, h4, h5⟩ := h; ⟨css, h1, h2, fun w'' hk => h3 w'' (Kp.before hb hk), h4, h5.kept hb⟩
theorem BLn.blk (h : BLn R s te z n w g L) (hz : z.length = s) : ∃ l, BL w g te l ∧ l.length = n * s := by
  obtain ⟨css, h1, h2, h3, h4, h5⟩ := h
  refine ⟨_, h5, ?_⟩
  rw [List.length_append, flatten_len h2, flat_length (s := s) (fun _ => hz), List.length_replicate, h1, ← Nat.add_mul]
  congr 1; omega
/-- One more laid. -/
theorem BLn.put {x : α} {xs : List Value} (h : BLn R s te z n w g L) (hz : z.length = s) (hlt : L.length < n) (hxs : xs.length = s) (hx : ∀ w', Kp (· = g) w w' → R w' xs x) {l : List Value} (hl : BL w g te l)
    (hw : BL w' g te (splice l (L.length * s) xs)) (hk : Kp (· = g) w w') : BLn R s te z n w' g (L ++ [x]) := by
  obtain ⟨css, h1, h2, h3, h4, h5⟩ := h
  have e : l = css.flatten ++ (List.replicate (n - L.length) ()).flatMap fun _ => z := by
    have := hl.symm.trans h5
    injection this with this
    injection this with this
    have := congrArg Array.toList this
    simpa using this
  subst e
  obtain ⟨j, hj⟩ : ∃ j, n - L.length = j + 1 := ⟨n - L.length - 1, by omega⟩
  refine ⟨css ++ [xs], by simp [h1], fun cs hcs => ?_, fun w'' hk'' k hk1 hk2 => ?_, by simp; omega, ?_⟩
  · rcases List.mem_append.1 hcs with h | h
    · exact h2 cs h
    · rw [List.mem_singleton.1 h]; exact hxs
  · by_cases hlt' : k < L.length
    · rw [List.getElem_append_left (by omega), List.getElem_append_left hlt']; exact h3 w'' (hk.trans hk'') k hlt' (by omega)
    · have e : k = L.length := by simp at hk1; omega
      subst e
      rw [List.getElem_append_right (by omega), List.getElem_append_right (by omega)]
      simp only [h1, Nat.sub_self, List.getElem_cons_zero]
      exact hx w'' (hk.trans hk'')
  · rw [hj, List.replicate_succ, List.flatMap_cons, ← List.append_assoc, splice_mid _ _ _ _ _ (by rw [flatten_len h2, h1]) (by rw [hxs, hz])] at hw
    rw [List.flatten_append, List.flatten_cons, List.flatten_nil, List.append_nil, List.length_append, List.length_singleton, show n - (L.length + 1) = j by omega]
    exact hw
theorem BLn.ls {b : Nat} (h : BLn R s te z n w g L) (hl : L.length = n) (hb : n * b ≤ lim) : LS R s b w (some ⟨g, 0, none⟩) n n L := by
  obtain ⟨css, h1, h2, h3, h4, h5⟩ := h
  rw [hl, Nat.sub_self, List.replicate_zero, List.flatMap_nil, List.append_nil] at h5
  refine ⟨hl, Nat.le_refl _, hb, fun k hk => ?_⟩
  have hk' : k < css.length := by omega
  refine ⟨g, 0, css[k], rfl, at_flatten h2 h5.all hk', h3 w (Kp.refl _ _) k hk hk'⟩
end

theorem TS.pre {w : World} {A : Option Addr} {n c : Nat} {m : List (List UInt8)} (h : TS w A n c m) {k : Nat} (hk : k ≤ n) : TS w A k c (m.take k) := by
  refine ⟨by rw [List.length_take, h.1]; omega, by have := h.2.1; omega, by have := h.2.2.1; omega, fun j hj => ?_⟩
  have h1 := h.2.2.2 j (by omega)
  have h2 : gR (m.take k) j = gR m j := by
    rw [gR_eq (by rw [List.length_take, h.1]; omega), gR_eq (by rw [h.1]; omega), List.getElem_take]
  show ∃ g o, A = some ⟨g, o, none⟩ ∧ w.cell? ⟨g, o + j, none⟩ = some (.string (strB (gR (m.take k) j)))
  rw [h2]
  exact h1
theorem TS.suf {w : World} {g o n c : Nat} {m : List (List UInt8)} (h : TS w (some ⟨g, o, none⟩) n c m) {k : Nat} (hk : k ≤ n) : TS w (some ⟨g, o + k, none⟩) (n - k) (c - k) (m.drop k) := by
  refine ⟨by rw [List.length_drop, h.1], by have := h.2.1; omega, by have := h.2.2.1; omega, fun j hj => ?_⟩
  obtain ⟨g', o', e, hc⟩ := h.2.2.2 (k + j) (by omega)
  cases e
  refine ⟨g, o + k, rfl, ?_⟩
  have e2 : gR (m.drop k) j = gR m (k + j) := by
    have hl := h.1
    rw [gR_eq (by rw [List.length_drop]; omega), gR_eq (by omega), List.getElem_drop]
  show w.cell? ⟨g, o + k + j, none⟩ = some (.string (strB (gR (m.drop k) j)))
  rw [e2, Nat.add_assoc]
  exact hc
theorem TS.form {w : World} {A : Option Addr} {n c : Nat} {m : List (List UInt8)} (h : TS w A n c m) (hn : 0 < n) : ∃ g o, A = some ⟨g, o, none⟩ := by
  obtain ⟨g, o, e, _⟩ := h.2.2.2 0 hn
  exact ⟨g, o, e⟩
theorem TS.of_ls {w : World} {A : Option Addr} {n c : Nat} {m : List (List UInt8)} (h : LS rStr 1 16 w A n c m) : TS w A n c m :=
  ⟨h.1, h.2.1, h.2.2.1, fun k hk => by
    have hk' : k < m.length := by rw [h.1]; exact hk
    obtain ⟨g, o, cs, e, h1, h2, _⟩ := h.2.2.2 k hk'
    refine ⟨g, o, e, ?_⟩
    rw [h2, Nat.mul_one] at h1
    show w.cell? ⟨g, o + k, none⟩ = some (.string (strB (gR m k)))
    rw [gR_eq hk']
    exact h1 0 _ rfl⟩
theorem wf_range {n : Int} (h : (Lit.int .i64 n).wf = true) : -9223372036854775808 ≤ n ∧ n ≤ 9223372036854775807 := by
  simp only [Lit.wf, Bool.and_eq_true, decide_eq_true_eq] at h
  exact ⟨by simpa [IntKind.min, IntKind.signed, IntKind.bits] using h.1, by simpa [IntKind.max, IntKind.signed, IntKind.bits] using h.2⟩
/-- What lies below a base stays. -/
theorem Kp.of_base {w w' : World} {B : Nat} (h : Below B w w') : Kp (fun b => B ≤ b) w w' := ⟨h.os, h.tape, h.output, h.size, fun i _ hn => h.block i (by omega)⟩
end Go.Proofs.YtgoefpbicohkfaaGreatDoor
