/- Several texts in one: LawKit, LawOpen, LawOpen2, LawOpen44, Ls, Pu0, Grow, Pu1, Ol, Map, Mf. -/
import Derived.Test.YtklfficlegfhjaaGreatRows
import Derived.WalkKit
import Derived.ProofKit
import Derived.OpenShut
import Derived.Below
import Derived.Carry
import Derived.SizedLaws
import Derived.ChangeSame
import Derived.WideKeyArgs
import Derived.Test.YtklfficlegfhjaaGreatC1
import Derived.Deep.Matrix
import Derived.ChangeSlices
import Derived.DeepKeys4
import Derived.Deep.AppendSrc
import Derived.Lib.AppendStr
import Derived.Maps.OwnSet
/- The last step of a law's row: the call returned true and nothing older has changed, so the arguments read as before. -/
namespace Go.Proofs.YtklfficlegfhjaaGreat
open Go.ChangeShapes Go.WideShapes Go.ChangeAt Go.RowKit

section
variable {H : Type} {enc : TypeId × Value → H} {P : Program} {W W' : World} {sp : Nat → Bool}

theorem args_stay (hl : laidOutB P = true) : ∀ {ts : List TypeId} {vs : List Value} {ds : List (DataW H)} {ps : List MemPlace}, (∀ t ∈ ts, P.readableRec t = true ∧ t < P.types.size) →
  DataW.TrodAll enc P W 0 (fun _ => true) true ts vs ds ps → (∀ p ∈ ps, W.sameAt W' p) → (∀ p ∈ ps, sp p.block = true) → DataW.TrodAll enc P W' 0 sp true ts vs ds ps
 | [], _, _, _, _, h, _, _ => by
  obtain ⟨rfl, rfl, rfl⟩ := trodAll_nil h
  exact trodAll_mk0
 | t :: ts, _, _, _, ht, h, hs, hp => by
  obtain ⟨v, vs, d, ds, p, q, rfl, rfl, rfl, h1, h2⟩ := trodAll_cons h
  have h3 := WideElems.Trod_stays hl (ht t (by simp)).1 (ht t (by simp)).2 h1 (sp' := sp) (fun x hx => hs x (List.mem_append_left _ hx)) (fun x hx => hp x (List.mem_append_left _ hx))
  exact trodAll_cons_mk h3 (args_stay hl (fun t' ht' => ht t' (by simp [ht'])) h2 (fun x hx => hs x (List.mem_append_right _ hx)) (fun x hx => hp x (List.mem_append_right _ hx)))

theorem law_post {f : Func} {s : ChangeSpec} {apart fresh handsOn again : Bool} {args : Array Value} {ds : List (DataW H)} {before : List MemPlace} {t : TypeId}
  (hl : laidOutB P = true) (hvars : s.vars = []) (hW : DataW.Whole enc P f.params.toList s.vars apart W args.toList ds [] before)
  (hts : ∀ t ∈ f.params.toList, P.readableRec t = true ∧ t < P.types.size) (hrt : f.resultTypes = #[t]) (ht : P.underlying t = some .bool)
  (h1 : (s.fn H (ds ++ [])).results = [.lit (.bool true)]) (h2 : (s.fn H (ds ++ [])).args = ds) (h3 : (s.fn H (ds ++ [])).vars = [])
  (hb : Below W.heap.size W W') : s.post enc P f apart fresh handsOn again W args (.bool true) W' := by
 have hlt : ∀ p ∈ before, p.block < W.heap.size := fun p hp => hW.lt p hp
 have hW2 := hW
 obtain ⟨p, q, hA, hV, rfl, hz, hn⟩ := hW
 rw [hvars] at hV
 obtain ⟨_, rfl⟩ := trodVars_none hV
 simp only [List.append_nil] at hlt hW2 hz hn
 have stay : ∀ sp : Nat → Bool, (∀ x ∈ p, sp x.block = true) → DataW.TrodAll enc P W' 0 sp true f.params.toList args.toList ds p := fun sp hsp =>
  args_stay hl hts hA (fun x hx => hb.same (hlt x hx)) hsp
 have res : ∀ (b : Nat) (sp : Nat → Bool) (hd : Bool), DataW.TrodAll enc P W' b sp hd f.resultTypes.toList ((Value.bool true).resultList f.resultTypes.size) [.lit (.bool true)] [] := fun b sp hd => by
  rw [hrt]
  exact trodAll_cons_mk (shut_bool ht _) trodAll_mk0
 refine ⟨ds, [], p, [], p, [], hW2, by rw [h1]; exact res _ _ _, by rw [h2]; exact stay _ (fun x hx => by simpa using hlt x hx), by rw [h3, hvars]; exact rfl, World.keptBut_mono (fun x hx => ⟨hx, .inr (by simpa using hx)⟩) (hb.frame (· ∈ p)), fun _ => ⟨?_, ?_⟩⟩
 ·
  exact ok_one hrt rfl (okWide_bool_mk ht _)
 ·
  refine ⟨_, [], ([] ++ p) ++ [], ⟨[] ++ p, [], trodAll_append (stay _ (fun _ _ => rfl)) (res _ _ _), by rw [hvars]; exact rfl, rfl, ?_, ?_⟩, ?_⟩
  ·
   intro b off hp
   have hin : MemPlace.cell b off ∈ p := by simpa using hp
   rw [hb.frozen (hlt _ hin)]
   exact hz b off hin
  ·
   intro ha
   simpa using hn ha
  ·
   intro x hx _
   simpa using hx
end
theorem own : ownKnob Tryz.prog.godebug = none := by kernel_rfl
theorem laidOut : laidOutB Tryz.prog = true := by kernel_rfl
end Go.Proofs.YtklfficlegfhjaaGreat
/- Arguments that are slices of ints and slices of byte slices, opened. -/
namespace Go.Proofs.YtklfficlegfhjaaGreat
open Go.ChangeShapes Go.WideShapes Go.ChangeAt Go.RowKit Gf

section
variable {H : Type} {enc : TypeId × Value → H} {P : Program} {W : World}

theorem mem_weightsAll {e : TypeId} {n : Nat} {d : DataW H} (hn : n ∈ d.weights P e) : ∀ {ds : List (DataW H)}, d ∈ ds → n ∈ DataW.weightsAll P e ds
 | [], h => by cases h
 | d0 :: ds, h => by
  simp only [DataW.weightsAll, List.mem_append]
  rcases List.mem_cons.1 h with rfl | h
  ·
   exact .inl hn
  ·
   exact .inr (mem_weightsAll hn h)

theorem addr_spot {a : Addr} {v : Value} (h : W.cell? a = some v) : a.spot = none := by
 cases hs : a.spot with
 | none => rfl
 | some s =>
  simp only [World.cell?] at h
  split at h
  ·
   simp [hs] at h
  ·
   cases h
theorem addr_addL {a : Addr} {k : Nat} {v : Value} (h : W.cell? (a.add k) = some v) : W.cell? ⟨a.block, a.off + k, none⟩ = some v := by
 have h1 := addr_spot h
 by_cases h0 : k = 0
 ·
  subst h0
  have e : a.add 0 = a := by simp [Addr.add]
  rw [e] at h h1
  obtain ⟨b, o, s⟩ := a
  simp only at h1
  subst h1
  exact h
 ·
  simp only [Addr.add, h0, if_false] at h
  exact h

end
end Go.Proofs.YtklfficlegfhjaaGreat
/- Arguments that are slices of bytes, opened. -/
namespace Go.Proofs.YtklfficlegfhjaaGreat
open Go.ChangeShapes Go.WideShapes Go.ChangeAt Go.RowKit Gf

section
variable {H : Type} {enc : TypeId × Value → H} {P : Program} {W : World}

end
end Go.Proofs.YtklfficlegfhjaaGreat
/- Arguments opened: strings; the heap that the door leaves meets the rows' condition. -/
namespace Go.Proofs.YtklfficlegfhjaaGreat
open Go Go.ChangeShapes Go.WideShapes Go.ChangeAt Go.RowKit Gf Sha

section
variable {H : Type} {enc : TypeId × Value → H} {P : Program} {W : World} {base b0 : Nat} {sp : Nat → Bool} {held : Bool} {r : Reach}
end

end Go.Proofs.YtklfficlegfhjaaGreat
/- Slices of elements of many cells that read as lists; arguments of any shape opened, part by part. For any program. -/
namespace Go.Proofs.YtklfficlegfhjaaGreat
open Go Go.ChangeShapes Go.WideShapes Go.ChangeAt Go.RowKit Gf Sha

/-- A reading of cells as data. -/
abbrev Rdg (α : Type) := World → List Value → α → Prop
/-- It stays while nothing old turns. -/
def Stay {α : Type} (R : Rdg α) : Prop := ∀ w w' cs x, R w cs x → Below w.heap.size w w' → R w' cs x
/-- A slice of n elements of s cells, b bytes. -/
def LS {α : Type} (R : Rdg α) (s b : Nat) (w : World) (A : Option Addr) (n c : Nat) (L : List α) : Prop :=
 L.length = n ∧ n ≤ c ∧ n * b ≤ lim ∧ ∀ k (h : k < L.length), ∃ g o cs, A = some ⟨g, o, none⟩ ∧ At w g (o + k * s) cs ∧ R w cs L[k]
section
variable {α : Type} {R : Rdg α} {s b n c : Nat} {w w' : World} {A : Option Addr} {L : List α}
theorem LS.kept (h : LS R s b w A n c L) (hR : Stay R) (hb : Below w.heap.size w w') : LS R s b w' A n c L :=
 ⟨h.1, h.2.1, h.2.2.1, fun k hk => let ⟨g, o, cs, e, h1, h2⟩ := h.2.2.2 k hk; ⟨g, o, cs, e, h1.kept hb, hR _ _ _ _ h2 hb⟩⟩
theorem LS.drew (h : LS R s b w A n c L) (hR : Stay R) : LS R s b w.drew A n c L := h.kept hR (Below.refl _ _).drew
theorem LS.at_ (h : LS R s b w A n c L) (hR : Stay R) (hb : Below w.heap.size w w') {k : Nat} (hk : k < n) :
  ∃ x g o cs, L[k]? = some x ∧ A = some ⟨g, o, none⟩ ∧ At w' g (o + k * s) cs ∧ R w' cs x := by
 have hk' : k < L.length := by rw [h.1]; exact hk
 obtain ⟨g, o, cs, e, h1, h2⟩ := (h.kept hR hb).2.2.2 k hk'
 exact ⟨L[k], g, o, cs, List.getElem?_eq_getElem hk', e, h1, h2⟩
theorem LS.nil : LS R s b w none 0 0 [] := ⟨rfl, Nat.le_refl _, by simp, fun k hk => absurd hk (by simp)⟩
theorem LS.pre (h : LS R s b w A n c L) {k : Nat} (hk : k ≤ n) : LS R s b w A k c (L.take k) := by
 refine ⟨by rw [List.length_take, h.1]; omega, by have := h.2.1; omega, Nat.le_trans (Nat.mul_le_mul_right _ hk) h.2.2.1, fun j hj => ?_⟩
 rw [List.length_take] at hj
 have := h.2.2.2 j (by omega)
 rw [List.getElem_take]
 exact this
end

section
variable {H : Type} (enc : TypeId × Value → H) (P : Program) (W : World)
/-- Whatever an argument of type e reads as, it reads so. -/
def Opens {α : Type} (e : TypeId) (R : Rdg α) : Prop :=
 ∀ (cs : List Value) (d : DataW H) (ps : List MemPlace) (n : Nat), DataW.trod enc P W 0 (fun _ => true) true n e cs = some (d, ps) → (∀ m ∈ d.weights P e, m ≤ reachBytes) → cs.length = P.cellsOf e → ∃ x, R W cs x
end
section
variable {H : Type} {enc : TypeId × Value → H} {P : Program} {W : World}
def rStr : Rdg (List UInt8) := fun _ cs x => cs = [.string (strB x)] ∧ x.length ≤ reachBytes
def rInt : Rdg Int := fun _ cs x => cs = [.int .i64 x] ∧ (Lit.int .i64 x).wf = true
def rList {α : Type} (R : Rdg α) (s b : Nat) : Rdg (List α) := fun w cs L => ∃ A n c, cs = [.slice A n c] ∧ LS R s b w A n c L
theorem stay_int : Stay rInt := fun _ _ _ _ h _ => h
theorem opens_str {e : TypeId} (he : P.underlying e = some .string) : Opens enc P W e rStr := fun cs d ps n h hw _ => by
 obtain ⟨s, e1, e2, _⟩ := DataW.trod_string he h
 simp only [Prod.mk.injEq] at e2
 obtain ⟨rfl, _⟩ := e2
 refine ⟨s.data.toList, by rw [e1, strB_of], hw _ (by simp [DataW.weights])⟩
theorem opens_int {e : TypeId} (he : P.underlying e = some (.int .i64)) : Opens enc P W e rInt := fun cs d ps n h hw _ => by
 obtain ⟨z, e1, _, h3⟩ := DataW.trod_int he h
 exact ⟨z, e1, h3⟩
theorem opens_list {α : Type} {R : Rdg α} {t e : TypeId} {s b : Nat} (ht : P.underlying t = some (.slice e)) (hs : 0 < s) (hc : P.cellsOf e = s) (hby : P.bytesOf e = b) (hR : Opens enc P W e R) : Opens enc P W t (rList R s b) := fun cs d ps n h hw _ => by
 rcases Deep.open_slice ht h with ⟨rfl, _⟩ | ⟨a, len, cap', m, n', D, Pl, rfl, _, hl, _, hm, hx, hel⟩
 ·
  exact ⟨[], none, 0, 0, rfl, LS.nil⟩
 ·
  simp only [if_true] at hm
  injection hx with hd _
  subst hd
  have hw0 := hw (((List.range len).length + (List.range (m - len)).length) * b) (by simp [DataW.weights, ht, hby])
  have each : ∀ i, i < len → ∃ q : List Value × α, q.1.length = s ∧ (∀ j, j < s → W.cell? ((a.add (i * s)).add j) = q.1[j]?) ∧ R W q.1 q.2 := fun i hi => by
   obtain ⟨cs', h1, h2⟩ := hel i (by omega)
   rw [hc] at h1
   obtain ⟨_, h3, h4⟩ := World.cells?_some h1
   obtain ⟨x, hx⟩ := hR cs' _ _ _ h2 (fun k hk => hw k (by
    simp only [DataW.weights, ht, List.mem_cons, List.mem_append]
    exact .inr (.inl (mem_weightsAll (d := D i) hk (List.mem_map.2 ⟨i, List.mem_range.2 hi, rfl⟩))))) (by rw [h3, hc])
   exact ⟨(cs', x), h3, h4, hx⟩
  by_cases h0 : 0 < len
  ·
   obtain ⟨q, hq⟩ : ∃ q : Nat → List Value × α, ∀ i, i < len → (q i).1.length = s ∧ (∀ j, j < s → W.cell? ((a.add (i * s)).add j) = (q i).1[j]?) ∧ R W (q i).1 (q i).2 :=
    ⟨fun i => if hi : i < len then Classical.choose (each i hi) else Classical.choose (each 0 h0), fun i hi => by simp only [dif_pos hi]; exact Classical.choose_spec (each i hi)⟩
   have hcell : ∀ i j v, i < len → (q i).1[j]? = some v → W.cell? (a.add (i * s + j)) = some v := fun i j v hi hv => by
    have hj : j < s := by rw [← (hq i hi).1]; exact (List.getElem?_eq_some_iff.1 hv).1
    have := (hq i hi).2.1 j hj
    rw [Deep.add_add, hv] at this
    exact this
   refine ⟨(List.range len).map fun i => (q i).2, some a, len, cap', rfl, by simp, hl, ?_, fun k hk => ?_⟩
   ·
    simp only [List.length_range, reachBytes] at hw0
    have h9 : len * b ≤ (len + (m - len)) * b := Nat.mul_le_mul_right _ (by omega)
    unfold lim
    omega
   ·
    rw [List.length_map, List.length_range] at hk
    have hsp : a.spot = none := by
     have h9 := (hq 0 h0).1
     match hl0 : (q 0).1, h9 with
     | [], h9 => simp at h9; omega
     | v :: r, _ =>
      have := hcell 0 0 v h0 (by rw [hl0]; rfl)
      rw [Nat.zero_mul] at this
      have e : a.add (0 + 0) = a := by simp [Addr.add]
      rw [e] at this
      exact addr_spot this
    obtain ⟨b', o', s'⟩ := a
    simp only at hsp
    subst hsp
    refine ⟨b', o', (q k).1, rfl, fun j v hv => ?_, ?_⟩
    ·
     have := addr_addL (hcell k j v hk hv)
     rw [Nat.add_assoc]
     exact this
    ·
     simp only [List.getElem_map, List.getElem_range]
     exact (hq k hk).2.2
  ·
   obtain rfl : len = 0 := by omega
   exact ⟨[], some a, 0, cap', rfl, rfl, by omega, by simp, fun k hk => absurd hk (by simp)⟩
/-- The parts of a struct. -/
theorem struct_each {e : TypeId} {fs : Array Field} {cs : List Value} {d : DataW H} {ps : List MemPlace} {n : Nat} (he : P.underlying e = some (.struct fs)) (h : DataW.trod enc P W 0 (fun _ => true) true n e cs = some (d, ps)) (hw : ∀ m ∈ d.weights P e, m ≤ reachBytes) :
  ∀ (i : Nat) (f : Field), fs[i]? = some f → ∀ {α : Type} {R : Rdg α}, Opens enc P W f.type R → f.offset + P.cellsOf f.type ≤ cs.length → ∃ x, R W ((cs.drop f.offset).take (P.cellsOf f.type)) x := by
 intro i f hf α R hR hle
 obtain ⟨xs, k, _, hx, hl, hxl, hel⟩ := DataW.trod_struct he h
 have hi : i < xs.length := by rw [hxl]; exact (Array.getElem?_eq_some_iff.1 hf).1
 have h1 := hel i f hf
 rw [List.getElem?_eq_getElem hi] at h1
 simp only [Prod.mk.injEq] at hx
 obtain ⟨rfl, _⟩ := hx
 refine hR _ _ _ _ h1 (fun m hm => hw m ?_) (by rw [List.length_take, List.length_drop]; omega)
 simp only [DataW.weights, he]
 exact DataW.weights_mem_each (j := i) (t := f.type) (d := xs[i].1) (by simp [hf]) (by simp [List.getElem?_eq_getElem hi]) m hm
end
end Go.Proofs.YtklfficlegfhjaaGreat
/- Piece IDs as keys of maps. -/
namespace Go.Proofs.YtklfficlegfhjaaGreat
open Go Go.RowKit Go.WideMaps Gf
set_option maxRecDepth 100000

theorem laidOutT : laidOutB Tryz.prog = true := by kernel_rfl
theorem pidRow : (78 : TypeId) < Tryz.prog.types.size := of_decide_eq_true (by kernel_rfl)
theorem pidWide : (match Tryz.prog.underlying 78 with | some (.array _ _) | some (.struct _) => true | _ => false) = true := by kernel_rfl
theorem pidLaw : KeyLaw Tryz.prog 78 := deep_law_laid laidOutT (m := 2) (by omega) pidRow (by kernel_rfl) pidWide
theorem pidKeyed : Go.Maps.Keyed Tryz.prog 78 := Go.Maps.Keyed.of_law pidLaw
theorem pidType : Tryz.prog.keyType 78 = true := by kernel_rfl
theorem keyPid (s : List UInt8) (i : Int) (hs : s.length ≤ 9223372036854775807) (hi : (Lit.int .i64 i).wf = true) : ∃ lx, keyOf Tryz.prog 78 (.agg #[.string (strB s), .int .i64 i]) = some lx := by
 have hc : Tryz.prog.cellsOf 78 = 2 := by kernel_rfl
 have hcs : Tryz.prog.cellsOf 9 = 1 := by kernel_rfl
 have hci : Tryz.prog.cellsOf 3 = 1 := by kernel_rfl
 have hm : (strB s).size ≤ maxLen := by rw [strB_size]; exact hs
 have hf : (Value.agg #[.string (strB s), .int .i64 i]).formed Tryz.prog 78 = true := by
  simp [Value.formed, Tryz.underlying78, hc]
 have hk : ∃ ls, Tryz.prog.keyLits (Tryz.prog.types.size + 1) 78 (Value.agg #[.string (strB s), .int .i64 i]).cells.toList = some ls := by
  obtain ⟨m, hm'⟩ : ∃ m, Tryz.prog.types.size = m + 1 := ⟨Tryz.prog.types.size - 1, by kernel_rfl⟩
  rw [hm']
  unfold Program.keyLits
  rw [Tryz.underlying78]
  simp only [Value.cells, hc]
  simp [Program.keyLits, Tryz.underlying9, Tryz.underlying3, hcs, hci, hm, hi]
 obtain ⟨ls, hk⟩ := hk
 exact ⟨.string (keyBytes ls), by
  unfold keyOf
  rw [Tryz.underlying78]
  simp only [pidType, hf, hk]
  rfl⟩
end Go.Proofs.YtklfficlegfhjaaGreat
/- append onto a byte slice that is full: the result is a row of the call's own. []byte("..") of a constant. Strings as sources. -/
namespace Go.Proofs.YtklfficlegfhjaaGreat
open Go Go.RowKit Gf

theorem BS.firstCells {P : Program} {w : World} {A : Option Addr} {n c : Nat} {l : List UInt8} (h : BS w A n c l) : (Builtin.firstCells 1 n (.slice A n c)).run P w = .ok (l.map B).toArray w := by
 cases A with
 | none =>
  have h0 : n = 0 := by
   rcases Nat.eq_zero_or_pos n with h0 | h0
   ·
    exact h0
   ·
    obtain ⟨g, o, e, _⟩ := h.2.2.2 0 h0
    cases e
  have hl : l = [] := List.eq_nil_of_length_eq_zero (by rw [h.1, h0])
  subst hl
  simp [Builtin.firstCells]
 | some a =>
  have hl := run_loadCells_list (P := P) w a (l.map B) (fun j v hv => by
   obtain ⟨hj, hv2⟩ := List.getElem?_eq_some_iff.1 hv
   rw [List.length_map] at hj
   obtain ⟨g', o', e, hc⟩ := h.2.2.2 j (by rw [← h.1]; exact hj)
   obtain rfl := Option.some.inj e
   rw [addr_add, hc]
   show some (B (gB l j)) = _
   rw [gB_eq hj, ← hv2]
   simp)
  rw [List.length_map, h.1] at hl
  simp [Builtin.firstCells, hl]

section
variable (w : World) {ops : Array Oper} {rest : List Oper} {o : Oper} {a : Act} {Q : Exit → Act → World → Prop}
end

/-- The groups of a number (f: more than there are). -/
def uvf : Nat → Nat → List UInt8
 | 0, n => [UInt8.ofNat n]
 | f + 1, n => if n < 128 then [UInt8.ofNat n] else (UInt8.ofNat n ||| 128) :: uvf f (n >>> 7)
def uv (n : Nat) : List UInt8 := uvf 10 n
end Go.Proofs.YtklfficlegfhjaaGreat
/- Slices in a block alone, from anywhere in it, of elements of many cells: append and cut. Proved for any program. -/
namespace Go.Proofs.YtklfficlegfhjaaGreat
open Go Go.RowKit Gf

/-- v is a slice of n elements of s cells, its block whole from there on. -/
def RW (w : World) (te : TypeId) (s : Nat) (v : Value) (n : Nat) (l : List Value) : Prop :=
 l.length = n * s ∧ ((v = .slice none 0 0 ∧ n = 0) ∨ ∃ g o c cs, v = .slice (some ⟨g, o, none⟩) n c ∧ BL w g te cs ∧ n ≤ c ∧ c ≤ maxLen ∧ o + c * s ≤ cs.length ∧ (cs.drop o).take (n * s) = l)

section
variable {w w' : World} {te : TypeId} {s n : Nat} {v : Value} {l : List Value}
theorem RW.nil (w : World) (te : TypeId) (s : Nat) : RW w te s (.slice none 0 0) 0 [] := ⟨by simp, .inl ⟨rfl, rfl⟩⟩
theorem RW.kp {S : Nat → Prop} (h : RW w te s v n l) (hk : Kp S w w') (hn : ∀ b, v.ownBlock = some b → ¬ S b) : RW w' te s v n l := by
 refine ⟨h.1, ?_⟩
 rcases h.2 with h2 | ⟨g, o, c, cs, rfl, hb, r⟩
 ·
  exact .inl h2
 ·
  exact .inr ⟨g, o, c, cs, rfl, hb.kp hk (hn g rfl), r⟩
theorem RW.kept (h : RW w te s v n l) (hb : Below w.heap.size w w') : RW w' te s v n l := by
 refine ⟨h.1, ?_⟩
 rcases h.2 with h2 | ⟨g, o, c, cs, rfl, hb', r⟩
 ·
  exact .inl h2
 ·
  exact .inr ⟨g, o, c, cs, rfl, hb'.kept hb, r⟩
theorem RW.drew (h : RW w te s v n l) : RW w.drew te s v n l := h
theorem RW.lt (h : RW w te s v n l) {b : Nat} (hb : v.ownBlock = some b) : b < w.heap.size := by
 rcases h.2 with ⟨rfl, _⟩ | ⟨g, o, c, cs, rfl, hb', r⟩
 ·
  cases hb
 ·
  cases hb; exact hb'.lt
theorem RW.form (h : RW w te s v n l) : ∃ A c, v = .slice A n c ∧ n ≤ c := by
 rcases h.2 with ⟨rfl, rfl⟩ | ⟨g, o, c, cs, rfl, hb', hn, r⟩
 ·
  exact ⟨none, 0, rfl, Nat.le_refl _⟩
 ·
  exact ⟨_, c, rfl, hn⟩
theorem RW.at_ (h : RW w te s v n l) (hn : 0 < n) : ∃ g o c, v = .slice (some ⟨g, o, none⟩) n c ∧ n ≤ c ∧ At w g o l := by
 rcases h.2 with ⟨_, h0⟩ | ⟨g, o, c, cs, rfl, hb, h1, h2, h3, rfl⟩
 ·
  omega
 ·
  refine ⟨g, o, c, rfl, h1, fun j x hj => hb.get ?_⟩
  obtain ⟨hj1, _⟩ := List.getElem?_eq_some_iff.1 hj
  rw [List.getElem?_take_of_lt (by rw [List.length_take] at hj1; omega), List.getElem?_drop] at hj
  exact hj
theorem RW.of_blk {g : Nat} (h : BL w g te l) (hl : l.length = n * s) (hn : n ≤ maxLen) : RW w te s (.slice (some ⟨g, 0, none⟩) n n) n l :=
 ⟨hl, .inr ⟨g, 0, n, l, rfl, h, Nat.le_refl _, hn, by omega, by rw [List.drop_zero, ← hl, List.take_length]⟩⟩
theorem RW.firstCells {P : Program} {A : Option Addr} {c : Nat} (h : RW w te s (.slice A n c) n l) : (Builtin.firstCells s n (.slice A n c)).run P w = .ok l.toArray w := by
 rcases h.2 with ⟨e, h0⟩ | ⟨g, o, c', cs, e, hb, h1, h2, h3, h4⟩
 ·
  cases e
  have hl : l = [] := List.eq_nil_of_length_eq_zero (by rw [h.1]; omega)
  subst hl
  simp [Builtin.firstCells]
 ·
  cases e
  have ha : At w g o l := by
   subst h4
   intro j x hj
   obtain ⟨hj1, _⟩ := List.getElem?_eq_some_iff.1 hj
   rw [List.getElem?_take_of_lt (by rw [List.length_take] at hj1; omega), List.getElem?_drop] at hj
   exact hb.get hj
  have hl := run_loadCells_list (P := P) w ⟨g, o, none⟩ l (fun j x hj => by rw [addr_add]; exact ha j x hj)
  rw [h.1] at hl
  simp [Builtin.firstCells, hl]

theorem splice_row (cs : List Value) (o k m : Nat) (xs : List Value) (hx : xs.length = m) (h : o + (k + m) ≤ cs.length) : ((splice cs (o + k) xs).drop o).take (k + m) = (cs.drop o).take k ++ xs := by
 have e1 : (cs.take (o + k)).length = o + k := by rw [List.length_take]; omega
 have e2 : (splice cs (o + k) xs).drop o = (cs.drop o).take k ++ (xs ++ cs.drop (o + k + xs.length)) := by
  unfold splice
  rw [List.append_assoc, List.drop_append, e1, show o - (o + k) = 0 by omega, List.drop_zero, List.drop_take, show o + k - o = k by omega]
 rw [e2, ← List.append_assoc]
 have e3 : ((cs.drop o).take k ++ xs).length = k + m := by rw [List.length_append, List.length_take, List.length_drop, hx]; omega
 rw [← e3, List.take_left]
theorem splice_length (cs : List Value) (o : Nat) (xs : List Value) (h : o + xs.length ≤ cs.length) : (splice cs o xs).length = cs.length := by
 unfold splice
 rw [List.length_append, List.length_append, List.length_take, List.length_drop]; omega

/-- What an append leaves: the row is longer; it lies where it lay, or in a new block. -/
structure AppR (w : World) (te : TypeId) (s : Nat) (v : Value) (n m : Nat) (l xs : List Value) (v' : Value) (w' : World) : Prop where
 row : RW w' te s v' (n + m) (l ++ xs)
 kp : Kp (fun b => v.ownBlock = some b) w w'
 own : ∀ b, v'.ownBlock = some b → v.ownBlock = some b ∨ w.heap.size ≤ b

theorem run_appRW {P : Program} {t tx rt : TypeId} {i : TypeInfo} {z : Value} (ht : P.underlying t = some (.slice te)) (hi : P.info? te = some i) (hz : i.zero = some z) (hs : i.size = s) (hzs : z.cells.size = s) (h : RW w te s v n l) {x : Value} {m : Nat} {xs : List Value}
  (hx : Src P s tx x m xs w) (hm : 0 < m) (hb : (n + m) * i.bytes ≤ 140737488355328) (hn : n + m ≤ 140737488355328) :
  ∃ v' w', (Builtin.append_ #[t, tx] rt #[v, x]).run P w = .ok v' w' ∧ AppR w te s v n m l xs v' w' := by
 obtain ⟨A, c, rfl, hnc⟩ := h.form
 have hxl := hx.newsLen
 by_cases hroom : n + m ≤ c
 ·
  rcases h.2 with ⟨e, _⟩ | ⟨g, o, c', cs, e, hbl, h1, h2, h3, h4⟩
  ·
   cases e; omega
  ·
   cases e
   have hle : o + n * s + xs.length ≤ cs.length := by
    have : (n + m) * s ≤ c * s := Nat.mul_le_mul_right _ hroom
    rw [Nat.add_mul] at this
    omega
   obtain ⟨w', hr, hb', hk, hsz⟩ := run_storeCells (P := P) xs hx.one (o + n * s) xs.length 0 cs w (by omega) hbl hle
   rw [List.drop_zero] at hr hb'
   refine ⟨.slice (some ⟨g, o, none⟩) (n + m) c, w', ?_, ⟨⟨by rw [List.length_append, h.1, hxl, Nat.add_mul], .inr ⟨g, o, c, _, rfl, hb', hroom, h2, ?_, ?_⟩⟩, ⟨hk.os, hk.tape, hk.output, hk.size, fun j hj hn' => hk.block j hj (fun e => hn' (by subst e; rfl))⟩, fun b hb => .inl hb⟩⟩
   ·
    rcases hx.kind with ⟨e', hk'⟩ | hk' <;> simp [Builtin.append_, run_underlying ht, run_underlying hk', sizeOf, typeInfo, hi, hs, hx.len, hroom, hx.cells, Addr.add_lit, hr, Result.andThen]
   ·
    have e9 : (splice cs (o + n * s) xs).length = cs.length := splice_length _ _ _ hle
    rw [Nat.add_zero]
    exact Nat.le_trans h3 (Nat.le_of_eq e9.symm)
   ·
    rw [Nat.add_mul, ← hxl]
    have := splice_row cs o (n * s) xs.length xs rfl (by omega)
    rw [h4] at this
    exact this
 ·
  have hg : c < n + m := by omega
  have hf : (Builtin.firstCells i.size n (.slice A n c)).run P w.drew = .ok l.toArray w.drew := by rw [hs]; exact RW.firstCells h.drew
  have hx' : Src P i.size tx x m xs w := by rw [hs]; exact hx
  have hr := run_append_grow_src (P := P) w t tx rt te i z ht hi hz A n c l hf x m xs hx' hg (by omega) (growslice_fits hg hb)
  have hge := grownCap_ge w (n + m) c te
  have hcm : grownCap w (n + m) c te ≤ maxLen := grownCap_le_maxLen w (n + m) c te (by simp only [maxLen]; omega)
  have hlx : (l ++ xs).length = (n + m) * s := by rw [List.length_append, h.1, hxl, Nat.add_mul]
  refine ⟨_, _, hr, ⟨⟨hlx, .inr ⟨w.heap.size, 0, _, ((l ++ xs).toArray ++ Builtin.zeroCells z.cells (grownCap w (n + m) c te - (n + m))).toList, rfl, ?_, hge, hcm, ?_, ?_⟩⟩, Kp.of_below (((Below.refl _ _).drew).alloc (Nat.le_refl _) _), fun b hb => .inr (by cases hb; exact Nat.le_refl _)⟩⟩
  ·
   exact BL.new w.drew te _
  ·
   rw [Array.toList_append, List.length_append, hlx, Array.length_toList, size_zeroCells, hzs, Nat.zero_add, ← Nat.add_mul]
   exact Nat.le_of_eq (by congr 1; omega)
  ·
   rw [List.drop_zero, Array.toList_append, ← hlx]
   exact List.take_left
end

section
variable {P : Program} (w : World) {ops : Array Oper} {rest : List Oper} {o : Oper} {a : Act} {Q : Exit → Act → World → Prop}
/-- append(r, x), x boxed in a slice of one. -/
theorem wpList_appRW (hg : o.guard = none) (sl x : Operand) (t te : TypeId) (s : Nat) (i : TypeInfo) (z : Value) (hop : o.op = .call { callee := .builtin .append, args := #[sl, x], argTypes := #[t, t] })
  (ht : P.underlying t = some (.slice te)) (hi : P.info? te = some i) (hz : i.zero = some z) (hs : i.size = s) (hzs : z.cells.size = s) (v : Value) (n : Nat) (l : List Value) (hv : a.eval sl = v) (h : RW w te s v n l)
  (g : Nat) (xs : List Value) (hx : a.eval x = .slice (some ⟨g, 0, none⟩) 1 1) (hbl : BL w g te xs) (hxl : xs.length = s) (h1 : ∀ u ∈ xs, u.oneCell' = true) (hb : (n + 1) * i.bytes ≤ 140737488355328) (hn : n + 1 ≤ 140737488355328)
  (hK : ∀ v' w', AppR w te s v n 1 l xs v' w' → wpList P ops Q rest (a.put o.dst v') w') : wpList P ops Q (o :: rest) a w :=
 wpList_plain hg fun K hK' => by
  have hrow : RW w te s (.slice (some ⟨g, 0, none⟩) 1 1) 1 xs := RW.of_blk hbl (by omega) (by decide)
  have hsrc : Src P s t (.slice (some ⟨g, 0, none⟩) 1 1) 1 xs w := ⟨.inl ⟨_, ht⟩, fun _ => rfl, hrow.firstCells, RW.firstCells hrow.drew, by omega, h1⟩
  obtain ⟨v', w', hr, h2⟩ := run_appRW (rt := o.type) ht hi hz hs hzs h hsrc (by decide) hb hn
  unfold Oper.wp execOp
  simp only [hop, resolve, invoke, builtin, Sem.run_bind, Sem.run_pure, Result.andThen_ok, List.map_toArray, List.map_cons, List.map_nil, hv, hx, hr]
  exact hK' _ _ (hK v' w' h2)
end
end Go.Proofs.YtklfficlegfhjaaGreat
/- Lists that a loop builds by append: elements of many cells, their parts in memory that was there before. For any program. -/
namespace Go.Proofs.YtklfficlegfhjaaGreat
open Go Go.RowKit Gf Sha

theorem at_flatten {w : World} {g s : Nat} : ∀ {css : List (List Value)} {o : Nat}, (∀ cs ∈ css, cs.length = s) → At w g o css.flatten → ∀ {k : Nat} (hk : k < css.length), At w g (o + k * s) css[k]
 | [], _, _, _, k, hk => absurd hk (by simp)
 | c :: r, o, h, hat, k, hk => by
  have hc : c.length = s := h c (by simp)
  rw [List.flatten_cons] at hat
  cases k with
  | zero => rw [Nat.zero_mul, Nat.add_zero]; exact hat.left
  | succ k =>
   have h2 : At w g (o + s) r.flatten := fun j v hj => by
    have := hat (s + j) v (by rw [List.getElem?_append_right (by omega), hc, Nat.add_sub_cancel_left]; exact hj)
    rw [Nat.add_assoc]; exact this
   have := at_flatten (fun cs hcs => h cs (by simp [hcs])) h2 (k := k) (by simpa using hk)
   rw [Nat.succ_mul, show o + (k * s + s) = o + s + k * s by omega]
   exact this
theorem flatten_len {s : Nat} : ∀ {css : List (List Value)}, (∀ cs ∈ css, cs.length = s) → css.flatten.length = css.length * s
 | [], _ => by simp
 | c :: r, h => by
  rw [List.flatten_cons, List.length_append, h c (by simp), flatten_len (fun cs hcs => h cs (by simp [hcs])), List.length_cons, Nat.succ_mul]; omega

/-- v holds the list L, in a block of its own that is newer than w0; its parts read in w0. -/
def OL {α : Type} (R : Rdg α) (s : Nat) (te : TypeId) (w0 w : World) (v : Value) (L : List α) : Prop :=
 ∃ css : List (List Value), css.length = L.length ∧ (∀ cs ∈ css, cs.length = s) ∧ (∀ k (h : k < L.length) (h' : k < css.length), R w0 css[k] L[k]) ∧ RW w te s v L.length css.flatten ∧ ∀ b, v.ownBlock = some b → w0.heap.size ≤ b
section
variable {α : Type} {R : Rdg α} {s : Nat} {te : TypeId} {w0 w w' : World} {v v' : Value} {L : List α}
theorem OL.nil (R : Rdg α) (s : Nat) (te : TypeId) (w0 w : World) : OL R s te w0 w (.slice none 0 0) [] := ⟨[], rfl, (fun _ h => by cases h), (fun k h => absurd h (by simp)), RW.nil _ _ _, (fun b hb => by cases hb)⟩
theorem OL.nil' {g : Nat} (R : Rdg α) (s : Nat) (h : BL w g te []) (hg : w0.heap.size ≤ g) : OL R s te w0 w (.slice (some ⟨g, 0, none⟩) 0 0) [] :=
 ⟨[], rfl, (fun _ h => by cases h), (fun k h => absurd h (by simp)), RW.of_blk h (by simp) (by decide), (fun b hb => by cases hb; exact hg)⟩
theorem OL.kept (h : OL R s te w0 w v L) (hb : Below w.heap.size w w') : OL R s te w0 w' v L :=
 let ⟨css, h1, h2, h3, h4, h5⟩ := h; ⟨css, h1, h2, h3, h4.kept hb, h5⟩
theorem OL.row (h : OL R s te w0 w v L) : ∃ cs, RW w te s v L.length cs := let ⟨_, _, _, _, h4, _⟩ := h; ⟨_, h4⟩
theorem OL.own (h : OL R s te w0 w v L) : ∀ b, v.ownBlock = some b → w0.heap.size ≤ b := let ⟨_, _, _, _, _, h5⟩ := h; h5
/-- Pushed: the append's row is what the law on append takes. -/
theorem OL.push {n : Nat} {css : List (List Value)} (hl : css.length = L.length) (h2 : ∀ cs ∈ css, cs.length = s) (h3 : ∀ k (h : k < L.length) (h' : k < css.length), R w0 css[k] L[k]) (h5 : ∀ b, v.ownBlock = some b → w0.heap.size ≤ b) (hn : L.length = n)
  {x : α} {xs : List Value} (hxs : xs.length = s) (hx : R w0 xs x) (hw : w0.heap.size ≤ w.heap.size) (ap : AppR w te s v n 1 css.flatten xs v' w') : OL R s te w0 w' v' (L ++ [x]) := by
 refine ⟨css ++ [xs], by simp [hl], fun cs hcs => ?_, fun k hk hk' => ?_, ?_, fun b hb => (ap.own b hb).elim (h5 b) (fun h => Nat.le_trans hw h)⟩
 ·
  rcases List.mem_append.1 hcs with h | h
  ·
   exact h2 cs h
  ·
   rw [List.mem_singleton.1 h]; exact hxs
 ·
  by_cases hlt : k < L.length
  ·
   rw [List.getElem_append_left (by omega), List.getElem_append_left hlt]; exact h3 k hlt (by omega)
  ·
   have e : k = L.length := by simp at hk; omega
   subst e
   rw [List.getElem_append_right (by omega), List.getElem_append_right (by omega)]
   simp only [hl, Nat.sub_self, List.getElem_cons_zero]
   exact hx
 ·
  have := ap.row
  rw [List.flatten_append, List.flatten_cons, List.flatten_nil, List.append_nil, List.length_append, hn]
  exact this
theorem OL.ls {b : Nat} (h : OL R s te w0 w v L) (hR : Stay R) (hb : Below w0.heap.size w0 w) (hl : L.length * b ≤ lim) : ∃ A c, v = .slice A L.length c ∧ LS R s b w A L.length c L := by
 obtain ⟨css, h1, h2, h3, h4, h5⟩ := h
 obtain ⟨A, c, rfl, hc⟩ := h4.form
 refine ⟨A, c, rfl, rfl, hc, hl, fun k hk => ?_⟩
 obtain ⟨g, o, c', e, _, hat⟩ := h4.at_ (by omega)
 cases e
 have hk' : k < css.length := by omega
 exact ⟨g, o, css[k], rfl, at_flatten h2 hat hk', hR _ _ _ _ (h3 k hk hk') hb⟩
end
end Go.Proofs.YtklfficlegfhjaaGreat
/- Maps of the call's own, as lists of keys with values; look-ups and stores as laws at the operation. Proved for any program. -/
namespace Go.Proofs.YtklfficlegfhjaaGreat
open Go Go.RowKit Go.ChangeMaps Go.MapKept Gf
open Go.Maps (Keyed)

/-- Block b is a map with just the entries L. -/
def MB (P : Program) (k : TypeId) (w : World) (b : Nat) (L : List (Value × Value)) : Prop :=
 ∃ es clock, w.heap[b]? = some (.map es clock) ∧ Stamped es clock ∧ (∀ x ∈ es.toList, ∃ l, keyOf P k x.key = some l) ∧ es.toList.map (fun e => (e.key, e.val)) = L

section
variable {P : Program} {k : TypeId} {w w' : World} {b : Nat} {L : List (Value × Value)}
theorem MB.lt (h : MB P k w b L) : b < w.heap.size := by
 obtain ⟨es, clock, hb, _⟩ := h
 exact (Array.getElem?_eq_some_iff.1 hb).1
theorem MB.kept (h : MB P k w b L) (hb : Below w.heap.size w w') : MB P k w' b L := by
 have hl := h.lt
 obtain ⟨es, clock, h1, h2⟩ := h
 exact ⟨es, clock, (hb.block b hl).trans h1, h2⟩
theorem MB.kp {S : Nat → Prop} (h : MB P k w b L) (hb : Kp S w w') (hn : ¬ S b) : MB P k w' b L := by
 have hl := h.lt
 obtain ⟨es, clock, h1, h2⟩ := h
 exact ⟨es, clock, (hb.block b hl hn).trans h1, h2⟩
theorem MB.drew (h : MB P k w b L) : MB P k w.drew b L := h
theorem MB.drewN (h : MB P k w b L) (n : Nat) : MB P k (w.drewN n) b L := h
theorem MB.new (P : Program) (k : TypeId) (w : World) : MB P k (w.alloc (.map #[] 0)) w.heap.size [] :=
 ⟨#[], 0, (MapKept.heap_alloc w _).1, stamped_empty 0, by simp, rfl⟩
theorem MB.nodup (h : MB P k w b L) : (L.map (·.1)).Nodup := by
 obtain ⟨es, clock, _, h2, _, rfl⟩ := h
 rw [List.map_map]
 exact h2.2.2

theorem run_makeMap' (t : TypeId) (w : World) : (Instr.makeMap t none).run P w = .ok (.map (some w.heap.size)) (w.alloc (.map #[] 0)) := rfl

/-- The value of a key, the zero value where there is none. -/
inductive Found (L : List (Value × Value)) (x z : Value) : Value → Bool → Prop
 | yes (i : Nat) (v : Value) (h : L[i]? = some (x, v)) : Found L x z v true
 | no (h : ∀ p ∈ L, p.1 ≠ x) : Found L x z z false

theorem MB.look {t e : TypeId} (h : MB P k w b L) (K : Keyed P k) (ht : P.underlying t = some (.map k e)) {z : Value} (hz : (P.info? e).map (·.zero) = some (some z)) {x : Value} {lx : Lit} (hx : keyOf P k x = some lx) (c : Bool) :
  ∃ v f, Found L x z v f ∧ (Instr.lookup t (.map (some b)) x c).run P w = .ok (if c then .tuple #[v, .bool f] else v) w := by
 obtain ⟨es, clock, hb, _, hk, rfl⟩ := h
 have hzv : (zeroValue e).run P w = .ok z w := by
  cases hi : P.info? e with
  | none => simp [hi] at hz
  | some i =>
   have hz' : i.zero = some z := by simpa [hi] using hz
   simp [zeroValue, typeInfo, hi, hz']
 rcases K.find w hx es.toList hk with ⟨f1, f2⟩ | ⟨j, e0, f1, f2, f3⟩
 ·
  refine ⟨z, false, .no (by intro p hp; obtain ⟨y, hy, rfl⟩ := List.mem_map.1 hp; exact f2 y hy), ?_⟩
  simp [Instr.lookup, run_underlying ht, MapKept.run_getObj_map hb, K.check w _ hx, f1, hzv, Result.andThen]
 ·
  refine ⟨e0.val, true, .yes j e0.val (by rw [List.getElem?_map, f2]; simp [f3]), ?_⟩
  simp [Instr.lookup, run_underlying ht, MapKept.run_getObj_map hb, K.check w _ hx, f1, Result.andThen]

/-- The list behind a store. -/
inductive Stored (L : List (Value × Value)) (x v : Value) : List (Value × Value) → Prop
 | old (i : Nat) (u : Value) (h : L[i]? = some (x, u)) : Stored L x v (L.set i (x, v))
 | new (h : ∀ p ∈ L, p.1 ≠ x) : Stored L x v (L ++ [(x, v)])

theorem MB.store {t e : TypeId} (h : MB P k w b L) (K : Keyed P k) (ht : P.underlying t = some (.map k e)) {x : Value} {lx : Lit} (hx : keyOf P k x = some lx) (v : Value) :
  ∃ w' L', Stored L x v L' ∧ (Instr.mapUpdate t (.map (some b)) x v).run P w = .ok () w' ∧ MB P k w' b L' ∧ Kp (· = b) w w' ∧ w'.heap.size = w.heap.size := by
 obtain ⟨es, clock, hb, hst, hk, rfl⟩ := h
 have kp : ∀ o, Kp (· = b) w (setBlock w b o) := fun o => ⟨rfl, rfl, rfl, by simp [setBlock], fun i _ hi => heap_setBlock_other hb o hi⟩
 rcases K.find w hx es.toList hk with ⟨f1, f2⟩ | ⟨j, e0, f1, f2, f3⟩
 ·
  refine ⟨setBlock w b (.map (es.push { key := x, val := v, born := clock }) (clock + 1)), _, .new (by intro p hp; obtain ⟨y, hy, rfl⟩ := List.mem_map.1 hp; exact f2 y hy), ?_, ⟨_, _, heap_setBlock_same hb _, stamped_push hst (fun y hy => f2 y hy), ?_, ?_⟩, kp _, by simp [setBlock]⟩
  ·
   simp [Instr.mapUpdate, run_underlying ht, MapKept.run_getObj_map hb, K.check w _ hx, f1, MapKept.run_setObj_map _ hb, Result.andThen, setBlock]
  ·
   intro y hy
   simp only [Array.toList_push, List.mem_append, List.mem_singleton] at hy
   rcases hy with hy | rfl
   ·
    exact hk y hy
   ·
    exact ⟨lx, hx⟩
  ·
   simp
 ·
  have f2' : es[j]? = some e0 := by simpa using f2
  have hkey : ((es[j]?.map (·.key)).getD x) = x := by rw [f2']; simp [f3]
  refine ⟨setBlock w b (.map (es.modify j fun e => { e with key := x, val := v }) clock), _, .old j e0.val (by rw [List.getElem?_map, f2]; simp [f3]), ?_, ⟨_, _, heap_setBlock_same hb _, stamped_modify hst j _ (fun _ _ => rfl) (fun y _ hj => by rw [f2'] at hj; cases hj; exact f3.symm), ?_, ?_⟩, kp _, by simp [setBlock]⟩
  ·
   simp only [Instr.mapUpdate, Sem.run_bind, run_underlying ht, MapKept.run_getObj_map hb, K.check w _ hx, f1, Result.andThen_ok, hkey, K.stays w hx, MapKept.run_setObj_map _ hb]
   rfl
  ·
   intro y hy
   obtain ⟨i, hi, rfl⟩ := List.mem_iff_getElem.1 hy
   by_cases hij : j = i
   ·
    subst hij
    refine ⟨lx, ?_⟩
    simp only [Array.length_toList, Array.size_modify] at hi
    simp [hx]
   ·
    simp only [Array.length_toList, Array.size_modify] at hi
    have := hk es[i] (by simp)
    simpa [Array.getElem_modify, hij] using this
  ·
   apply List.ext_getElem?
   intro i
   rw [List.getElem?_map, Array.getElem?_toList, Array.getElem?_modify, List.getElem?_set]
   by_cases hij : j = i
   ·
    subst hij
    have hjs : j < es.size := (Array.getElem?_eq_some_iff.1 f2').1
    simp [hjs]
   ·
    simp [hij]
end

section
variable {P : Program} (w : World) {ops : Array Oper} {rest : List Oper} {o : Oper} {a : Act} {Q : Exit → Act → World → Prop}
theorem wpList_makeMap (hg : o.guard = none) (t k : TypeId) (hop : o.op = .makeMap t none)
  (h : ∀ w', MB P k w' w.heap.size [] → Below w.heap.size w w' → w'.heap.size = w.heap.size + 1 → wpList P ops Q rest (a.put o.dst (.map (some w.heap.size))) w') : wpList P ops Q (o :: rest) a w :=
 wpList_plain hg fun K hK => by
  unfold Oper.wp execOp
  simp only [hop]
  simp [run_makeMap', Result.andThen]
  exact hK _ _ (h _ (MB.new P k w) ((Below.refl _ _).alloc (Nat.le_refl _) _) (by simp))
theorem wpList_lookok (hg : o.guard = none) (m x : Operand) (t k e : TypeId) (hop : o.op = .lookup t m x true) (K : Keyed P k) (ht : P.underlying t = some (.map k e)) (z : Value) (hz : (P.info? e).map (·.zero) = some (some z))
  (b : Nat) (L : List (Value × Value)) (hm : a.eval m = .map (some b)) (hb : MB P k w b L) (xv : Value) (hx : a.eval x = xv) (hk : ∃ lx, keyOf P k xv = some lx)
  (h : ∀ v f, Found L xv z v f → wpList P ops Q rest (a.put o.dst (.tuple #[v, .bool f])) w) : wpList P ops Q (o :: rest) a w :=
 wpList_plain hg fun K' hK' => by
  obtain ⟨lx, hlx⟩ := hk
  obtain ⟨v, f, hf, hr⟩ := hb.look K ht hz hlx true
  unfold Oper.wp execOp
  simp only [hop, hm, hx]
  simp [hr, Result.andThen]
  exact hK' _ _ (h v f hf)
theorem wpList_upd (hg : o.guard = none) (m x v : Operand) (t k e : TypeId) (hop : o.op = .mapUpdate t m x v) (K : Keyed P k) (ht : P.underlying t = some (.map k e))
  (b : Nat) (L : List (Value × Value)) (hm : a.eval m = .map (some b)) (hb : MB P k w b L) (xv vv : Value) (hx : a.eval x = xv) (hv : a.eval v = vv) (hk : ∃ lx, keyOf P k xv = some lx)
  (h : ∀ w' L', Stored L xv vv L' → MB P k w' b L' → Kp (· = b) w w' → w'.heap.size = w.heap.size → wpList P ops Q rest (a.put o.dst undef) w') : wpList P ops Q (o :: rest) a w :=
 wpList_plain hg fun K' hK' => by
  obtain ⟨lx, hlx⟩ := hk
  obtain ⟨w', L', hs, hr, h1, h2, h3⟩ := hb.store K ht hlx vv
  unfold Oper.wp execOp
  simp only [hop, hm, hx, hv]
  simp [hr, Result.andThen]
  exact hK' _ _ (h w' L' hs h1 h2 h3)
end
end Go.Proofs.YtklfficlegfhjaaGreat
/- Maps of the call's own as functions from keys to values. For any program. -/
namespace Go.Proofs.YtklfficlegfhjaaGreat
open Go Go.RowKit Go.ChangeMaps Go.MapKept Gf
open Go.Maps (Keyed)

/-- Block b is a map that has for the key enc x the value f x, where there is one, and no other keys. -/
def MF {κ : Type} (P : Program) (k : TypeId) (enc : κ → Value) (w : World) (b : Nat) (f : κ → Option Value) : Prop :=
 ∃ L, MB P k w b L ∧ (∀ x v, (enc x, v) ∈ L ↔ f x = some v) ∧ ∀ p ∈ L, ∃ x, p.1 = enc x

section
variable {κ : Type} {P : Program} {k : TypeId} {enc : κ → Value} {w w' : World} {b : Nat} {f : κ → Option Value}
theorem MF.lt (h : MF P k enc w b f) : b < w.heap.size := let ⟨_, h1, _⟩ := h; h1.lt
theorem MF.kept (h : MF P k enc w b f) (hb : Below w.heap.size w w') : MF P k enc w' b f := let ⟨L, h1, h2⟩ := h; ⟨L, h1.kept hb, h2⟩
theorem MF.kp {S : Nat → Prop} (h : MF P k enc w b f) (hb : Kp S w w') (hn : ¬ S b) : MF P k enc w' b f := let ⟨L, h1, h2⟩ := h; ⟨L, h1.kp hb hn, h2⟩
theorem MF.new (h : MB P k w b []) : MF P k enc w b (fun _ => none) := ⟨[], h, (fun x v => by simp), (fun p hp => by cases hp)⟩
theorem mf_found {L : List (Value × Value)} (h2 : ∀ x v, (enc x, v) ∈ L ↔ f x = some v) {x : κ} {z v : Value} {fl : Bool} (h : Found L (enc x) z v fl) : v = (f x).getD z ∧ fl = (f x).isSome := by
 cases h with
 | yes i v h =>
  have := (h2 x v).1 (List.mem_of_getElem? h)
  rw [this]; exact ⟨rfl, rfl⟩
 | no h =>
  have : f x = none := by
   cases hf : f x with
   | none => rfl
   | some u => exact absurd rfl (h _ ((h2 x u).2 hf))
  rw [this]; exact ⟨rfl, rfl⟩
theorem mf_stored [DecidableEq κ] (hinj : ∀ x y, enc x = enc y → x = y) {L L' : List (Value × Value)} (hn : (L.map (·.1)).Nodup) (h2 : ∀ x v, (enc x, v) ∈ L ↔ f x = some v) (h3 : ∀ p ∈ L, ∃ x, p.1 = enc x) {x : κ} {v : Value} (h : Stored L (enc x) v L') :
  (∀ y u, (enc y, u) ∈ L' ↔ (if y = x then some v else f y) = some u) ∧ ∀ p ∈ L', ∃ y, p.1 = enc y := by
 cases h with
 | new h =>
  refine ⟨fun y u => ?_, fun p hp => ?_⟩
  ·
   rw [List.mem_append, List.mem_singleton]
   by_cases hy : y = x
   ·
    subst hy
    rw [if_pos rfl]
    constructor
    ·
     rintro (h9 | h9)
     ·
      exact absurd rfl (h _ h9)
     ·
      injection h9 with _ h9; rw [h9]
    ·
     intro h9; injection h9 with h9; rw [h9]; exact .inr rfl
   ·
    rw [if_neg hy, ← h2]
    constructor
    ·
     rintro (h9 | h9)
     ·
      exact h9
     ·
      injection h9 with h9 _; exact absurd (hinj _ _ h9) hy
    ·
     exact .inl
  ·
   rcases List.mem_append.1 hp with hp | hp
   ·
    exact h3 p hp
   ·
    rw [List.mem_singleton.1 hp]; exact ⟨x, rfl⟩
 | old i u0 h =>
  obtain ⟨hi, hu⟩ := List.getElem?_eq_some_iff.1 h
  have hmem : ∀ q, q ∈ L.set i (enc x, v) ↔ q = (enc x, v) ∨ (q ∈ L ∧ q.1 ≠ enc x) := by
   intro q
   constructor
   ·
    intro hq
    obtain ⟨j, hj, e⟩ := List.getElem_of_mem hq
    rw [List.length_set] at hj
    by_cases hij : i = j
    ·
     subst hij; rw [List.getElem_set_self] at e; exact .inl e.symm
    ·
     rw [List.getElem_set_ne hij] at e
     refine .inr ⟨by rw [← e]; exact List.getElem_mem hj, fun hk => hij ?_⟩
     have hp := List.pairwise_iff_getElem.1 (show (L.map (·.1)).Pairwise (· ≠ ·) from hn)
     rcases Nat.lt_trichotomy i j with hlt | he | hlt
     ·
      exact absurd (by rw [List.getElem_map, List.getElem_map, hu, e]; exact hk.symm) (hp i j (by simpa using hi) (by simpa using hj) hlt)
     ·
      exact he
     ·
      exact absurd (by rw [List.getElem_map, List.getElem_map, hu, e]; exact hk) (hp j i (by simpa using hj) (by simpa using hi) hlt)
   ·
    rintro (rfl | ⟨hq, hne⟩)
    ·
     exact List.mem_iff_getElem.2 ⟨i, by rw [List.length_set]; exact hi, List.getElem_set_self _⟩
    ·
     obtain ⟨j, hj, e⟩ := List.getElem_of_mem hq
     have hij : i ≠ j := fun e9 => by subst e9; rw [hu] at e; rw [← e] at hne; exact hne rfl
     exact List.mem_iff_getElem.2 ⟨j, by rw [List.length_set]; exact hj, by rw [List.getElem_set_ne hij]; exact e⟩
  refine ⟨fun y u => ?_, fun p hp => ?_⟩
  ·
   rw [hmem]
   by_cases hy : y = x
   ·
    subst hy
    rw [if_pos rfl]
    constructor
    ·
     rintro (h9 | ⟨_, h9⟩)
     ·
      injection h9 with _ h9; rw [h9]
     ·
      exact absurd rfl h9
    ·
     intro h9; injection h9 with h9; rw [h9]; exact .inl rfl
   ·
    rw [if_neg hy, ← h2]
    constructor
    ·
     rintro (h9 | h9)
     ·
      injection h9 with h9 _; exact absurd (hinj _ _ h9) hy
     ·
      exact h9.1
    ·
     intro h9; exact .inr ⟨h9, fun e => hy (hinj _ _ e)⟩
  ·
   rcases (hmem p).1 hp with rfl | hp
   ·
    exact ⟨x, rfl⟩
   ·
    exact h3 p hp.1
end

section
variable {κ : Type} {P : Program} (w : World) {ops : Array Oper} {rest : List Oper} {o : Oper} {a : Act} {Q : Exit → Act → World → Prop} {enc : κ → Value}
theorem wpList_makeF (hg : o.guard = none) (t k : TypeId) (hop : o.op = .makeMap t none)
  (h : ∀ w', MF P k enc w' w.heap.size (fun _ => none) → Below w.heap.size w w' → w'.heap.size = w.heap.size + 1 → wpList P ops Q rest (a.put o.dst (.map (some w.heap.size))) w') : wpList P ops Q (o :: rest) a w :=
 wpList_makeMap w hg t k hop (fun w' h1 => h w' (MF.new h1))
theorem wpList_lookokF (hg : o.guard = none) (m x : Operand) (t k e : TypeId) (hop : o.op = .lookup t m x true) (K : Keyed P k) (ht : P.underlying t = some (.map k e)) (z : Value) (hz : (P.info? e).map (·.zero) = some (some z))
  (b : Nat) (f : κ → Option Value) (hm : a.eval m = .map (some b)) (hb : MF P k enc w b f) (xv : κ) (hx : a.eval x = enc xv) (hk : ∃ lx, keyOf P k (enc xv) = some lx)
  (h : wpList P ops Q rest (a.put o.dst (.tuple #[(f xv).getD z, .bool (f xv).isSome])) w) : wpList P ops Q (o :: rest) a w := by
 obtain ⟨L, h1, h2, _⟩ := hb
 refine wpList_lookok w hg m x t k e hop K ht z hz b L hm h1 _ hx hk (fun v fl hf => ?_)
 rw [(mf_found h2 hf).1, (mf_found h2 hf).2]; exact h
theorem wpList_updF [DecidableEq κ] (hinj : ∀ x y, enc x = enc y → x = y) (hg : o.guard = none) (m x v : Operand) (t k e : TypeId) (hop : o.op = .mapUpdate t m x v) (K : Keyed P k) (ht : P.underlying t = some (.map k e))
  (b : Nat) (f : κ → Option Value) (hm : a.eval m = .map (some b)) (hb : MF P k enc w b f) (xv : κ) (vv : Value) (hx : a.eval x = enc xv) (hv : a.eval v = vv) (hk : ∃ lx, keyOf P k (enc xv) = some lx)
  (h : ∀ w', MF P k enc w' b (fun y => if y = xv then some vv else f y) → Kp (· = b) w w' → w'.heap.size = w.heap.size → wpList P ops Q rest (a.put o.dst undef) w') : wpList P ops Q (o :: rest) a w := by
 obtain ⟨L, h1, h2, h3⟩ := hb
 refine wpList_upd w hg m x v t k e hop K ht b L hm h1 _ vv hx hv hk (fun w' L' hs h4 h5 h6 => ?_)
 obtain ⟨r1, r2⟩ := mf_stored hinj h1.nodup h2 h3 hs
 exact h w' ⟨L', h4, r1, r2⟩ h5 h6
end
end Go.Proofs.YtklfficlegfhjaaGreat
