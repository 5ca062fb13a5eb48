/- Several texts in one: Mt3, Mt4, Rhs, Rso, Rsn, Mt5, LawKit, LawOpen, LawOpen2, Tabs, LawOpen44, Ls. -/
import Derived.Test.YtheijpjfpaghfaaGreatDoorC14
import Derived.Test.YtheijpjfpaghfaaGreatDoorC18
import Derived.LoopTactic
import Derived.Test.YtheijpjfpaghfaaGreatDoorC15
import Derived.Test.YtheijpjfpaghfaaGreatDoorRows
import Derived.WalkKit
import Derived.ProofKit
import Derived.OpenShut
import Derived.Below
import Derived.Carry
import Derived.SizedLaws
import Derived.ChangeSame
import Derived.WideKeyArgs
import Derived.Test.YtheijpjfpaghfaaGreatDoorC2
import Derived.Deep.Matrix
import Derived.ChangeSlices
import Derived.Test.YtheijpjfpaghfaaGreatDoorC5
import Derived.LaidMore
import Derived.Stop.Joined
import Derived.LaidLaws
import Derived.MakeChecks
import Derived.Test.YtheijpjfpaghfaaGreatDoorC8
import Derived.Test.YtheijpjfpaghfaaGreatDoorC10
/- Contracts of merkle.New, Tree.Len, Tree.Add. -/
namespace Go.Proofs.YtheijpjfpaghfaaGreatDoor
open Go Go.RowKit Gf Sha

section
variable {P : Program} (w : World) {ops : Array Oper} {rest : List Oper} {o : Oper} {a : Act} {Q : Exit → Act → World → Prop}
end
end Go.Proofs.YtheijpjfpaghfaaGreatDoor
/- Contracts of Tree.part, merkle.path, Tree.Path. -/
namespace Go.Proofs.YtheijpjfpaghfaaGreatDoor
open Go Go.RowKit Gf Sha

/-- A part that the division of a tree makes. -/
def Al (s n : Nat) : Prop := ∃ j, n ≤ 2 ^ j ∧ s % 2 ^ j = 0
theorem Al.all (n : Nat) : Al 0 n := ⟨n, Nat.le_of_lt Nat.lt_two_pow_self, Nat.zero_mod _⟩
theorem Al.left {s n k : Nat} (h : Al s n) (hk : k ≤ n) : Al s k := let ⟨j, h1, h2⟩ := h; ⟨j, by omega, h2⟩
theorem pow_dvd_mod {s a b : Nat} (h : s % 2 ^ b = 0) (hab : a ≤ b) : s % 2 ^ a = 0 :=
 Nat.mod_eq_zero_of_dvd (Nat.dvd_trans (Nat.pow_dvd_pow 2 hab) (Nat.dvd_of_mod_eq_zero h))
theorem pow_le_exp {a b : Nat} (h : 2 ^ a ≤ 2 ^ b) : a ≤ b := (Nat.pow_le_pow_iff_right (by decide)).1 h
theorem Al.right {s n : Nat} (h : Al s n) (h2 : 2 ≤ n) (hn : n ≤ 256) : Al (s + spl n) (n - spl n) := by
 obtain ⟨j, h3, h4⟩ := h
 obtain ⟨s1, s2, s3, _, _⟩ := spl_parts h2 hn
 have e : spl n = 2 ^ (Lib.bitLen (n - 1) - 1) := rfl
 refine ⟨Lib.bitLen (n - 1) - 1, by omega, ?_⟩
 rw [e, Nat.add_mod_right]
 exact pow_dvd_mod h4 (pow_le_exp (by omega))
end Go.Proofs.YtheijpjfpaghfaaGreatDoor
/- The reference's spots: plain; contract of ref44.has. -/
namespace Go.Proofs.YtheijpjfpaghfaaGreatDoor
open Go Go.RowKit Gf Sha

end Go.Proofs.YtheijpjfpaghfaaGreatDoor
/- Contract of ref44.Spots. -/
namespace Go.Proofs.YtheijpjfpaghfaaGreatDoor
open Go Go.RowKit Gf Sha

end Go.Proofs.YtheijpjfpaghfaaGreatDoor
/- Contract of ref44.Spots where its arguments are not valid. -/
namespace Go.Proofs.YtheijpjfpaghfaaGreatDoor
open Go Go.RowKit Gf Sha

end Go.Proofs.YtheijpjfpaghfaaGreatDoor
/- Contracts of the reference's Root, path, Path. -/
namespace Go.Proofs.YtheijpjfpaghfaaGreatDoor
open Go Go.RowKit Gf Sha

theorem TS.form {w : World} {A : Option Addr} {n c : Nat} {m : List (List UInt8)} (h : TS w A n c m) (hn : 0 < n) : ∃ g o, A = some ⟨g, o, none⟩ := by
 obtain ⟨g, o, e, _⟩ := h.2.2.2 0 hn
 exact ⟨g, o, e⟩

end Go.Proofs.YtheijpjfpaghfaaGreatDoor
/- The last step of a law's row: the call returned true and nothing older has changed, so the arguments read as before. -/
namespace Go.Proofs.YtheijpjfpaghfaaGreatDoor
open Go.ChangeShapes Go.WideShapes Go.ChangeAt Go.RowKit

section
variable {H : Type} {enc : TypeId × Value → H} {P : Program} {W W' : World} {sp : Nat → Bool}

theorem args_stay (hl : laidOutB P = true) : ∀ {ts : List TypeId} {vs : List Value} {ds : List (DataW H)} {ps : List MemPlace}, (∀ t ∈ ts, P.readableRec t = true ∧ t < P.types.size) →
  DataW.TrodAll enc P W 0 (fun _ => true) true ts vs ds ps → (∀ p ∈ ps, W.sameAt W' p) → (∀ p ∈ ps, sp p.block = true) → DataW.TrodAll enc P W' 0 sp true ts vs ds ps
 | [], _, _, _, _, h, _, _ => by
  obtain ⟨rfl, rfl, rfl⟩ := trodAll_nil h
  exact trodAll_mk0
 | t :: ts, _, _, _, ht, h, hs, hp => by
  obtain ⟨v, vs, d, ds, p, q, rfl, rfl, rfl, h1, h2⟩ := trodAll_cons h
  have h3 := WideElems.Trod_stays hl (ht t (by simp)).1 (ht t (by simp)).2 h1 (sp' := sp) (fun x hx => hs x (List.mem_append_left _ hx)) (fun x hx => hp x (List.mem_append_left _ hx))
  exact trodAll_cons_mk h3 (args_stay hl (fun t' ht' => ht t' (by simp [ht'])) h2 (fun x hx => hs x (List.mem_append_right _ hx)) (fun x hx => hp x (List.mem_append_right _ hx)))

theorem law_post {f : Func} {s : ChangeSpec} {apart fresh handsOn again : Bool} {args : Array Value} {ds : List (DataW H)} {before : List MemPlace} {t : TypeId}
  (hl : laidOutB P = true) (hvars : s.vars = []) (hW : DataW.Whole enc P f.params.toList s.vars apart W args.toList ds [] before)
  (hts : ∀ t ∈ f.params.toList, P.readableRec t = true ∧ t < P.types.size) (hrt : f.resultTypes = #[t]) (ht : P.underlying t = some .bool)
  (h1 : (s.fn H (ds ++ [])).results = [.lit (.bool true)]) (h2 : (s.fn H (ds ++ [])).args = ds) (h3 : (s.fn H (ds ++ [])).vars = [])
  (hb : Below W.heap.size W W') : s.post enc P f apart fresh handsOn again W args (.bool true) W' := by
 have hlt : ∀ p ∈ before, p.block < W.heap.size := fun p hp => hW.lt p hp
 have hW2 := hW
 obtain ⟨p, q, hA, hV, rfl, hz, hn⟩ := hW
 rw [hvars] at hV
 obtain ⟨_, rfl⟩ := trodVars_none hV
 simp only [List.append_nil] at hlt hW2 hz hn
 have stay : ∀ sp : Nat → Bool, (∀ x ∈ p, sp x.block = true) → DataW.TrodAll enc P W' 0 sp true f.params.toList args.toList ds p := fun sp hsp =>
  args_stay hl hts hA (fun x hx => hb.same (hlt x hx)) hsp
 have res : ∀ (b : Nat) (sp : Nat → Bool) (hd : Bool), DataW.TrodAll enc P W' b sp hd f.resultTypes.toList ((Value.bool true).resultList f.resultTypes.size) [.lit (.bool true)] [] := fun b sp hd => by
  rw [hrt]
  exact trodAll_cons_mk (shut_bool ht _) trodAll_mk0
 refine ⟨ds, [], p, [], p, [], hW2, by rw [h1]; exact res _ _ _, by rw [h2]; exact stay _ (fun x hx => by simpa using hlt x hx), by rw [h3, hvars]; exact rfl, World.keptBut_mono (fun x hx => ⟨hx, .inr (by simpa using hx)⟩) (hb.frame (· ∈ p)), fun _ => ⟨?_, ?_⟩⟩
 ·
  exact ok_one hrt rfl (okWide_bool_mk ht _)
 ·
  refine ⟨_, [], ([] ++ p) ++ [], ⟨[] ++ p, [], trodAll_append (stay _ (fun _ _ => rfl)) (res _ _ _), by rw [hvars]; exact rfl, rfl, ?_, ?_⟩, ?_⟩
  ·
   intro b off hp
   have hin : MemPlace.cell b off ∈ p := by simpa using hp
   rw [hb.frozen (hlt _ hin)]
   exact hz b off hin
  ·
   intro ha
   simpa using hn ha
  ·
   intro x hx _
   simpa using hx
end
theorem own : ownKnob Tryz.prog.godebug = none := by kernel_rfl
theorem laidOut : laidOutB Tryz.prog = true := by kernel_rfl
end Go.Proofs.YtheijpjfpaghfaaGreatDoor
/- Arguments that are slices of ints and slices of byte slices, opened. -/
namespace Go.Proofs.YtheijpjfpaghfaaGreatDoor
open Go.ChangeShapes Go.WideShapes Go.ChangeAt Go.RowKit Gf

section
variable {H : Type} {enc : TypeId × Value → H} {P : Program} {W : World}

theorem mem_weightsAll {e : TypeId} {n : Nat} {d : DataW H} (hn : n ∈ d.weights P e) : ∀ {ds : List (DataW H)}, d ∈ ds → n ∈ DataW.weightsAll P e ds
 | [], h => by cases h
 | d0 :: ds, h => by
  simp only [DataW.weightsAll, List.mem_append]
  rcases List.mem_cons.1 h with rfl | h
  ·
   exact .inl hn
  ·
   exact .inr (mem_weightsAll hn h)

theorem addr_spot {a : Addr} {v : Value} (h : W.cell? a = some v) : a.spot = none := by
 cases hs : a.spot with
 | none => rfl
 | some s =>
  simp only [World.cell?] at h
  split at h
  ·
   simp [hs] at h
  ·
   cases h
theorem addr_addL {a : Addr} {k : Nat} {v : Value} (h : W.cell? (a.add k) = some v) : W.cell? ⟨a.block, a.off + k, none⟩ = some v := by
 have h1 := addr_spot h
 by_cases h0 : k = 0
 ·
  subst h0
  have e : a.add 0 = a := by simp [Addr.add]
  rw [e] at h h1
  obtain ⟨b, o, s⟩ := a
  simp only at h1
  subst h1
  exact h
 ·
  simp only [Addr.add, h0, if_false] at h
  exact h

end
end Go.Proofs.YtheijpjfpaghfaaGreatDoor
/- Arguments that are slices of bytes, opened. -/
namespace Go.Proofs.YtheijpjfpaghfaaGreatDoor
open Go.ChangeShapes Go.WideShapes Go.ChangeAt Go.RowKit Gf

section
variable {H : Type} {enc : TypeId × Value → H} {P : Program} {W : World}

end
end Go.Proofs.YtheijpjfpaghfaaGreatDoor
/- The tables of sha256 and hmac, out of the condition that the row's card ties to the program's text. -/
namespace Go.Proofs.YtheijpjfpaghfaaGreatDoor
open Go Go.ChangeShapes Go.WideShapes Go.ChangeAt Go.RowKit Gf Sha

section
variable {H : Type} {enc : TypeId × Value → H} {P : Program} {w : World} {base : Nat} {spare : Nat → Bool} {held : Bool} {fuel : Nat} {t e : TypeId} {cs : List Value} {ps : List MemPlace} {k : IntKind}
theorem trod_ints (zs : List Int) (ht : P.underlying t = some (.array zs.length e)) (he : P.underlying e = some (.int k)) (ce : P.cellsOf e = 1) (ct : P.cellsOf t = zs.length)
  (h : DataW.trod enc P w base spare held fuel t cs = some (.agg (zs.map fun z => .lit (.int k z)), ps)) : cs = zs.map (.int k ·) := by
 obtain ⟨xs, m, rfl, hx, hl, hn, hel⟩ := DataW.trod_array ht h
 rw [ct] at hl
 simp only [Prod.mk.injEq, DataW.agg.injEq] at hx
 refine List.ext_getElem (by simp [hl]) (fun i h1 h2 => ?_)
 have hi : i < zs.length := by omega
 have hg := hel i hi
 rw [ce, Nat.mul_one, List.getElem?_eq_getElem (by omega)] at hg
 obtain ⟨z, e1, e2, _⟩ := DataW.trod_int he hg
 have h3 : (xs.map (·.1))[i]'(by simp; omega) = DataW.lit (.int k zs[i]) := by
  have : (xs.map (·.1)) = zs.map fun z => DataW.lit (.int k z) := hx.1.symm
  simp only [this, List.getElem_map]
 rw [List.getElem_map, e2] at h3
 simp only [DataW.lit.injEq, Lit.int.injEq, true_and] at h3
 subst h3
 have e3 : (cs.drop i).take 1 = [cs[i]] := by
  rw [List.drop_eq_getElem_cons h1]; rfl
 rw [e3] at e1
 simp only [List.cons.injEq, and_true] at e1
 rw [e1, List.getElem_map]
theorem cells_at {g : Nat} {n : String} {cs : Array Value} {l : List Value} (hg : P.globalNamed n = some g) (h : w.var? P n = some cs) (e : cs.toList = l) : At w g 0 l := by
 intro j v hj
 rw [Nat.zero_add, World.var?_cell hg h, ← hj, ← e]
 simp
end

theorem gPads : Tryz.prog.globalNamed "kinkeep/hmac.pads" = some 0 := by kernel_rfl
theorem gIni : Tryz.prog.globalNamed "kinkeep/sha256.initial" = some 1 := by kernel_rfl
theorem gCon : Tryz.prog.globalNamed "kinkeep/sha256.constants" = some 2 := by kernel_rfl
theorem tPads : (Tryz.prog.globals[0]?).map (·.type) = some 176 := by kernel_rfl
theorem tIni : (Tryz.prog.globals[1]?).map (·.type) = some 171 := by kernel_rfl
theorem tCon : (Tryz.prog.globals[2]?).map (·.type) = some 210 := by kernel_rfl
/-- What the rows list. -/
def laid3 : List (String × DataW Unit) := [("kinkeep/sha256.initial", Rows.laid_kinkeep_sha256_initial), ("kinkeep/sha256.constants", Rows.laid_kinkeep_sha256_constants), ("kinkeep/hmac.pads", Rows.laid_kinkeep_hmac_pads)]

set_option maxRecDepth 100000 in
theorem tabs_of_laid {W : World} (h : laidMetH Tryz.prog laid3 W) : Tabs W := by
 rw [MakeChecks.laidMetH_plain _ _ _ (by kernel_rfl)] at h
 obtain ⟨ps, ⟨g0, t0, cs0, f0, p0, q0, hg0, ht0, hv0, hd0, ⟨g1, t1, cs1, f1, p1, q1, hg1, ht1, hv1, hd1, ⟨g2, t2, cs2, f2, p2, q2, hg2, ht2, hv2, hd2, _, _⟩, _⟩, _⟩, _, _⟩ := h
 obtain rfl := Option.some.inj (gIni.symm.trans hg0)
 obtain rfl := Option.some.inj (gCon.symm.trans hg1)
 obtain rfl := Option.some.inj (gPads.symm.trans hg2)
 obtain rfl := Option.some.inj (tIni.symm.trans ht0)
 obtain rfl := Option.some.inj (tCon.symm.trans ht1)
 obtain rfl := Option.some.inj (tPads.symm.trans ht2)
 have e0 := trod_ints ([ini.a, ini.b, ini.c, ini.d, ini.e, ini.f, ini.g, ini.h].map wv) Tryz.underlying171 Tryz.underlying170 (by kernel_rfl) (by kernel_rfl) hd0
 have e1 := trod_ints (ks.map wv) Tryz.underlying210 Tryz.underlying170 (by kernel_rfl) (by kernel_rfl) hd1
 have e2 := trod_ints [54, 92] Tryz.underlying176 Tryz.underlying5 (by kernel_rfl) (by kernel_rfl) hd2
 exact ⟨cells_at gPads hv2 e2, cells_at gIni hv0 e0, cells_at gCon hv1 (by rw [e1]; rfl)⟩
end Go.Proofs.YtheijpjfpaghfaaGreatDoor
/- Arguments opened: strings; the heap that the door leaves meets the rows' condition. -/
namespace Go.Proofs.YtheijpjfpaghfaaGreatDoor
open Go Go.ChangeShapes Go.WideShapes Go.ChangeAt Go.RowKit Gf Sha

section
variable {H : Type} {enc : TypeId × Value → H} {P : Program} {W : World} {base b0 : Nat} {sp : Nat → Bool} {held : Bool} {r : Reach}
end

set_option maxRecDepth 100000 in
theorem door_met (os : Os) (args : Array Value) : laidMetH Tryz.prog laid3 ((World.doorLaid Tryz.prog 24 os).forCall (fun _ _ => 0) ⟨#[], args, []⟩).memory :=
 laidMetH_of_parts3 (fuel := 8) (laidMet_of_run' 8 (by kernel_rfl) (by kernel_rfl)) (by kernel_rfl) (by kernel_rfl)
end Go.Proofs.YtheijpjfpaghfaaGreatDoor
/- Slices of elements of many cells that read as lists; arguments of any shape opened, part by part. For any program. -/
namespace Go.Proofs.YtheijpjfpaghfaaGreatDoor
open Go Go.ChangeShapes Go.WideShapes Go.ChangeAt Go.RowKit Gf Sha

/-- A reading of cells as data. -/
abbrev Rdg (α : Type) := World → List Value → α → Prop
/-- It stays while nothing old turns. -/
def Stay {α : Type} (R : Rdg α) : Prop := ∀ w w' cs x, R w cs x → Below w.heap.size w w' → R w' cs x
/-- A slice of n elements of s cells, b bytes. -/
def LS {α : Type} (R : Rdg α) (s b : Nat) (w : World) (A : Option Addr) (n c : Nat) (L : List α) : Prop :=
 L.length = n ∧ n ≤ c ∧ n * b ≤ lim ∧ ∀ k (h : k < L.length), ∃ g o cs, A = some ⟨g, o, none⟩ ∧ At w g (o + k * s) cs ∧ R w cs L[k]
section
variable {α : Type} {R : Rdg α} {s b n c : Nat} {w w' : World} {A : Option Addr} {L : List α}
theorem LS.kept (h : LS R s b w A n c L) (hR : Stay R) (hb : Below w.heap.size w w') : LS R s b w' A n c L :=
 ⟨h.1, h.2.1, h.2.2.1, fun k hk => let ⟨g, o, cs, e, h1, h2⟩ := h.2.2.2 k hk; ⟨g, o, cs, e, h1.kept hb, hR _ _ _ _ h2 hb⟩⟩
theorem LS.drew (h : LS R s b w A n c L) (hR : Stay R) : LS R s b w.drew A n c L := h.kept hR (Below.refl _ _).drew
theorem LS.at_ (h : LS R s b w A n c L) (hR : Stay R) (hb : Below w.heap.size w w') {k : Nat} (hk : k < n) :
  ∃ x g o cs, L[k]? = some x ∧ A = some ⟨g, o, none⟩ ∧ At w' g (o + k * s) cs ∧ R w' cs x := by
 have hk' : k < L.length := by rw [h.1]; exact hk
 obtain ⟨g, o, cs, e, h1, h2⟩ := (h.kept hR hb).2.2.2 k hk'
 exact ⟨L[k], g, o, cs, List.getElem?_eq_getElem hk', e, h1, h2⟩
theorem LS.nil : LS R s b w none 0 0 [] := ⟨rfl, Nat.le_refl _, by simp, fun k hk => absurd hk (by simp)⟩
theorem LS.pre (h : LS R s b w A n c L) {k : Nat} (hk : k ≤ n) : LS R s b w A k c (L.take k) := by
 refine ⟨by rw [List.length_take, h.1]; omega, by have := h.2.1; omega, Nat.le_trans (Nat.mul_le_mul_right _ hk) h.2.2.1, fun j hj => ?_⟩
 rw [List.length_take] at hj
 have := h.2.2.2 j (by omega)
 rw [List.getElem_take]
 exact this
end

section
variable {H : Type} (enc : TypeId × Value → H) (P : Program) (W : World)
/-- Whatever an argument of type e reads as, it reads so. -/
def Opens {α : Type} (e : TypeId) (R : Rdg α) : Prop :=
 ∀ (cs : List Value) (d : DataW H) (ps : List MemPlace) (n : Nat), DataW.trod enc P W 0 (fun _ => true) true n e cs = some (d, ps) → (∀ m ∈ d.weights P e, m ≤ reachBytes) → cs.length = P.cellsOf e → ∃ x, R W cs x
end
section
variable {H : Type} {enc : TypeId × Value → H} {P : Program} {W : World}
def rStr : Rdg (List UInt8) := fun _ cs x => cs = [.string (strB x)] ∧ x.length ≤ reachBytes
def rInt : Rdg Int := fun _ cs x => cs = [.int .i64 x] ∧ (Lit.int .i64 x).wf = true
def rList {α : Type} (R : Rdg α) (s b : Nat) : Rdg (List α) := fun w cs L => ∃ A n c, cs = [.slice A n c] ∧ LS R s b w A n c L
theorem opens_str {e : TypeId} (he : P.underlying e = some .string) : Opens enc P W e rStr := fun cs d ps n h hw _ => by
 obtain ⟨s, e1, e2, _⟩ := DataW.trod_string he h
 simp only [Prod.mk.injEq] at e2
 obtain ⟨rfl, _⟩ := e2
 refine ⟨s.data.toList, by rw [e1, strB_of], hw _ (by simp [DataW.weights])⟩
theorem opens_int {e : TypeId} (he : P.underlying e = some (.int .i64)) : Opens enc P W e rInt := fun cs d ps n h hw _ => by
 obtain ⟨z, e1, _, h3⟩ := DataW.trod_int he h
 exact ⟨z, e1, h3⟩
theorem opens_list {α : Type} {R : Rdg α} {t e : TypeId} {s b : Nat} (ht : P.underlying t = some (.slice e)) (hs : 0 < s) (hc : P.cellsOf e = s) (hby : P.bytesOf e = b) (hR : Opens enc P W e R) : Opens enc P W t (rList R s b) := fun cs d ps n h hw _ => by
 rcases Deep.open_slice ht h with ⟨rfl, _⟩ | ⟨a, len, cap', m, n', D, Pl, rfl, _, hl, _, hm, hx, hel⟩
 ·
  exact ⟨[], none, 0, 0, rfl, LS.nil⟩
 ·
  simp only [if_true] at hm
  injection hx with hd _
  subst hd
  have hw0 := hw (((List.range len).length + (List.range (m - len)).length) * b) (by simp [DataW.weights, ht, hby])
  have each : ∀ i, i < len → ∃ q : List Value × α, q.1.length = s ∧ (∀ j, j < s → W.cell? ((a.add (i * s)).add j) = q.1[j]?) ∧ R W q.1 q.2 := fun i hi => by
   obtain ⟨cs', h1, h2⟩ := hel i (by omega)
   rw [hc] at h1
   obtain ⟨_, h3, h4⟩ := World.cells?_some h1
   obtain ⟨x, hx⟩ := hR cs' _ _ _ h2 (fun k hk => hw k (by
    simp only [DataW.weights, ht, List.mem_cons, List.mem_append]
    exact .inr (.inl (mem_weightsAll (d := D i) hk (List.mem_map.2 ⟨i, List.mem_range.2 hi, rfl⟩))))) (by rw [h3, hc])
   exact ⟨(cs', x), h3, h4, hx⟩
  by_cases h0 : 0 < len
  ·
   obtain ⟨q, hq⟩ : ∃ q : Nat → List Value × α, ∀ i, i < len → (q i).1.length = s ∧ (∀ j, j < s → W.cell? ((a.add (i * s)).add j) = (q i).1[j]?) ∧ R W (q i).1 (q i).2 :=
    ⟨fun i => if hi : i < len then Classical.choose (each i hi) else Classical.choose (each 0 h0), fun i hi => by simp only [dif_pos hi]; exact Classical.choose_spec (each i hi)⟩
   have hcell : ∀ i j v, i < len → (q i).1[j]? = some v → W.cell? (a.add (i * s + j)) = some v := fun i j v hi hv => by
    have hj : j < s := by rw [← (hq i hi).1]; exact (List.getElem?_eq_some_iff.1 hv).1
    have := (hq i hi).2.1 j hj
    rw [Deep.add_add, hv] at this
    exact this
   refine ⟨(List.range len).map fun i => (q i).2, some a, len, cap', rfl, by simp, hl, ?_, fun k hk => ?_⟩
   ·
    simp only [List.length_range, reachBytes] at hw0
    have h9 : len * b ≤ (len + (m - len)) * b := Nat.mul_le_mul_right _ (by omega)
    unfold lim
    omega
   ·
    rw [List.length_map, List.length_range] at hk
    have hsp : a.spot = none := by
     have h9 := (hq 0 h0).1
     match hl0 : (q 0).1, h9 with
     | [], h9 => simp at h9; omega
     | v :: r, _ =>
      have := hcell 0 0 v h0 (by rw [hl0]; rfl)
      rw [Nat.zero_mul] at this
      have e : a.add (0 + 0) = a := by simp [Addr.add]
      rw [e] at this
      exact addr_spot this
    obtain ⟨b', o', s'⟩ := a
    simp only at hsp
    subst hsp
    refine ⟨b', o', (q k).1, rfl, fun j v hv => ?_, ?_⟩
    ·
     have := addr_addL (hcell k j v hk hv)
     rw [Nat.add_assoc]
     exact this
    ·
     simp only [List.getElem_map, List.getElem_range]
     exact (hq k hk).2.2
  ·
   obtain rfl : len = 0 := by omega
   exact ⟨[], some a, 0, cap', rfl, rfl, by omega, by simp, fun k hk => absurd hk (by simp)⟩
/-- The parts of a struct. -/
theorem struct_each {e : TypeId} {fs : Array Field} {cs : List Value} {d : DataW H} {ps : List MemPlace} {n : Nat} (he : P.underlying e = some (.struct fs)) (h : DataW.trod enc P W 0 (fun _ => true) true n e cs = some (d, ps)) (hw : ∀ m ∈ d.weights P e, m ≤ reachBytes) :
  ∀ (i : Nat) (f : Field), fs[i]? = some f → ∀ {α : Type} {R : Rdg α}, Opens enc P W f.type R → f.offset + P.cellsOf f.type ≤ cs.length → ∃ x, R W ((cs.drop f.offset).take (P.cellsOf f.type)) x := by
 intro i f hf α R hR hle
 obtain ⟨xs, k, _, hx, hl, hxl, hel⟩ := DataW.trod_struct he h
 have hi : i < xs.length := by rw [hxl]; exact (Array.getElem?_eq_some_iff.1 hf).1
 have h1 := hel i f hf
 rw [List.getElem?_eq_getElem hi] at h1
 simp only [Prod.mk.injEq] at hx
 obtain ⟨rfl, _⟩ := hx
 refine hR _ _ _ _ h1 (fun m hm => hw m ?_) (by rw [List.length_take, List.length_drop]; omega)
 simp only [DataW.weights, he]
 exact DataW.weights_mem_each (j := i) (t := f.type) (d := xs[i].1) (by simp [hf]) (by simp [List.getElem?_eq_getElem hi]) m hm
end
end Go.Proofs.YtheijpjfpaghfaaGreatDoor
