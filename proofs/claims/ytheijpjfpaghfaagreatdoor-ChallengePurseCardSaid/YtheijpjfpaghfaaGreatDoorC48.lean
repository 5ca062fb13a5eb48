/- Several texts in one: Jb, Jd. -/
import Derived.Test.YtheijpjfpaghfaaGreatDoorC47
import Derived.Test.YtheijpjfpaghfaaGreatDoorC19
import Derived.Deep.DeepCutAuto
/- Memory for Add: tokens with their pieces, the map of nonces, a purse of which one entry is turned or new. -/
namespace Go.Proofs.YtheijpjfpaghfaaGreatDoor
open Go Go.RowKit Go.ChangeMaps Go.MapKept Gf Sha

def tkC (t : PT) : List Value := tokC t.1.1 t.1.2 t.2
/-- A token with its piece, read. -/
def rTk : Rdg PT := fun _ cs t => cs = tkC t ∧ t.1.1.length ≤ reachBytes ∧ (Lit.int .i64 t.1.2).wf = true ∧ t.2.1.length ≤ reachBytes ∧ t.2.2.length ≤ reachBytes
theorem stay_tk : Stay rTk := fun _ _ _ _ h _ => h
/-- A piece with the block of its nonces. -/
abbrev Th := Pid × Nat × List (List UInt8)
def thKV (d : Th) : Value × Value := (pidV d.1.1 d.1.2, .map (some d.2.1))
/-- The map from pieces to sets of nonces. -/
structure ThM (w : World) (gt : Nat) (D : List Th) : Prop where
 m : MB Tryz.prog 39 w gt (D.map thKV)
 s : ∀ d ∈ D, SetB w d.2.1 d.2.2
 lo : ∀ d ∈ D, gt < d.2.1
 ap : (D.map fun d => d.2.1).Nodup
section
variable {w w' : World} {gt : Nat} {D : List Th}
theorem ThM.nil (h : MB Tryz.prog 39 w gt []) : ThM w gt [] := ⟨h, fun _ h => (by cases h), fun _ h => (by cases h), List.nodup_nil⟩
theorem ThM.kept (h : ThM w gt D) (hb : Below w.heap.size w w') : ThM w' gt D := ⟨h.m.kept hb, fun d hd => (h.s d hd).kept hb, h.lo, h.ap⟩
theorem ThM.nd (h : ThM w gt D) : (D.map (·.1)).Nodup := by
 have h9 := h.m.nodup
 rw [List.map_map] at h9
 refine List.pairwise_map.2 ((List.pairwise_map.1 h9).imp (fun hne e => hne ?_))
 show pidV _ _ = pidV _ _
 rw [e]
theorem ThM.found (_h : ThM w gt D) {p : Pid} {v : Value} {f : Bool} (hf : Found (D.map thKV) (pidV p.1 p.2) (.map none) v f) :
  (∃ (k ib : Nat) (kn : List (List UInt8)), D[k]? = some (p, ib, kn) ∧ v = .map (some ib) ∧ f = true) ∨ ((∀ d ∈ D, d.1 ≠ p) ∧ v = .map none ∧ f = false) := by
 cases hf with
 | no h9 => exact .inr ⟨fun d hd e => h9 (thKV d) (List.mem_map.2 ⟨d, hd, rfl⟩) (by show pidV _ _ = _; rw [e]), rfl, rfl⟩
 | yes k v h9 =>
  rw [List.getElem?_map] at h9
  cases hy : D[k]? with
  | none => rw [hy] at h9; cases h9
  | some y =>
   rw [hy] at h9
   simp only [Option.map_some, Option.some.injEq, thKV, Prod.mk.injEq] at h9
   have hid := pidV_inj h9.1
   obtain ⟨yp, ib, kn⟩ := y
   have e : yp = p := Prod.ext hid.1 hid.2
   subst e
   exact .inl ⟨k, ib, kn, hy, h9.2.symm, rfl⟩
theorem set_cases {α : Type} {l : List α} {k : Nat} {x y : α} (h : y ∈ l.set k x) : y = x ∨ ∃ (i : Nat) (hi : i < l.length), i ≠ k ∧ y = l[i] := by
 obtain ⟨i, hi, rfl⟩ := List.getElem_of_mem h
 rw [List.length_set] at hi
 rw [List.getElem_set]
 split
 ·
  exact .inl rfl
 ·
  rename_i hne
  exact .inr ⟨i, hi, fun e => hne e.symm, rfl⟩
theorem nodup_ne {α β : Type} {f : α → β} {l : List α} (h : (l.map f).Nodup) {i k : Nat} (hi : i < l.length) (hk : k < l.length) (hne : i ≠ k) : f l[i] ≠ f l[k] := fun e => by
 have hw := List.pairwise_iff_getElem.1 (show (l.map f).Pairwise (· ≠ ·) from h)
 rcases Nat.lt_or_gt_of_ne hne with h1 | h1
 ·
  exact hw i k (by simpa using hi) (by simpa using hk) h1 (by rw [List.getElem_map, List.getElem_map]; exact e)
 ·
  exact hw k i (by simpa using hk) (by simpa using hi) h1 (by rw [List.getElem_map, List.getElem_map]; exact e.symm)
theorem ThM.put (h : ThM w gt D) {k : Nat} {p : Pid} {ib : Nat} {kn kn' : List (List UInt8)} (hk : D[k]? = some (p, ib, kn)) (hkp : Kp (· = ib) w w') (hs : SetB w' ib kn') : ThM w' gt (D.set k (p, ib, kn')) := by
 obtain ⟨hkl, hkk⟩ := List.getElem?_eq_some_iff.1 hk
 have hm : (p, ib, kn) ∈ D := by rw [← hkk]; exact List.getElem_mem hkl
 have e : (D.set k (p, ib, kn')).map thKV = D.map thKV := by
  rw [List.map_set]
  have h9 : (D.map thKV)[k]'(by simpa using hkl) = thKV (p, ib, kn') := by rw [List.getElem_map, hkk]; rfl
  rw [← h9]
  exact List.set_getElem_self _
 have e2 : (D.set k (p, ib, kn')).map (fun d => d.2.1) = D.map (fun d => d.2.1) := by
  rw [List.map_set]
  have h9 : (D.map fun d => d.2.1)[k]'(by simpa using hkl) = ib := by rw [List.getElem_map, hkk]
  show (D.map fun d => d.2.1).set k ib = _
  conv => lhs; rw [← h9]
  exact List.set_getElem_self _
 refine ⟨by rw [e]; exact h.m.kp hkp (fun e => by have := h.lo _ hm; simp only at this; omega), fun d hd => ?_, fun d hd => ?_, by rw [e2]; exact h.ap⟩
 ·
  rcases set_cases hd with rfl | ⟨i, hi, hne, rfl⟩
  ·
   exact hs
  ·
   refine (h.s _ (List.getElem_mem hi)).kp hkp (fun e => ?_)
   exact nodup_ne (f := fun d : Th => d.2.1) h.ap hi hkl hne (by simp only [hkk]; exact e)
 ·
  rcases set_cases hd with rfl | ⟨i, hi, hne, rfl⟩
  ·
   exact h.lo (p, ib, kn) hm
  ·
   exact h.lo _ (List.getElem_mem hi)
theorem ThM.add (h : ThM w gt D) {p : Pid} {ib : Nat} {kn : List (List UInt8)} {L' : List (Value × Value)} (hnew : ∀ d ∈ D, d.1 ≠ p) (hs : Stored (D.map thKV) (pidV p.1 p.2) (.map (some ib)) L') (hm : MB Tryz.prog 39 w' gt L') (hkp : Kp (· = gt) w w') (hset : SetB w ib kn) (hlo : gt < ib) (hfr : ∀ d ∈ D, d.2.1 ≠ ib) : ThM w' gt (D ++ [(p, ib, kn)]) := by
 have e : L' = (D ++ [(p, ib, kn)]).map thKV := by
  cases hs with
  | old i u h9 =>
   exfalso
   obtain ⟨d, hd, e⟩ := List.mem_map.1 (List.mem_of_getElem? h9)
   simp only [thKV, Prod.mk.injEq] at e
   have h8 := pidV_inj e.1
   exact hnew d hd (Prod.ext h8.1 h8.2)
  | new h9 => rw [List.map_append]; rfl
 refine ⟨by rw [← e]; exact hm, fun d hd => ?_, fun d hd => ?_, ?_⟩
 ·
  rcases List.mem_append.1 hd with h9 | h9
  ·
   exact (h.s d h9).kp hkp (fun e => by have := h.lo d h9; omega)
  ·
   rw [List.mem_singleton.1 h9]
   exact hset.kp hkp (fun e => by omega)
 ·
  rcases List.mem_append.1 hd with h9 | h9
  ·
   exact h.lo d h9
  ·
   rw [List.mem_singleton.1 h9]; exact hlo
 ·
  rw [List.map_append, List.nodup_append]
  refine ⟨h.ap, by simp, fun a ha b hb e9 => ?_⟩
  obtain ⟨d, hd, rfl⟩ := List.mem_map.1 ha
  rw [List.map_cons, List.map_nil, List.mem_singleton] at hb
  exact hfr d hd (e9.trans hb)
theorem ThM.kp {S : Nat → Prop} (h : ThM w gt D) (hk : Kp S w w') (h1 : ¬ S gt) (h2 : ∀ d ∈ D, ¬ S d.2.1) : ThM w' gt D := ⟨h.m.kp hk h1, fun d hd => (h.s d hd).kp hk (h2 d hd), h.lo, h.ap⟩
theorem ThM.lt (h : ThM w gt D) {d : Th} (hd : d ∈ D) : d.2.1 < w.heap.size := (h.s d hd).lt
end
/-- The sets hold the nonces that are known by now; where there is no set, nothing came in. -/
structure ThK (l l' : List En) (D : List Th) : Prop where
 k : ∀ d ∈ D, ∀ x, x ∈ d.2.2 ↔ x ∈ nonE (ofE l' d.1)
 u : ∀ p, (∀ d ∈ D, d.1 ≠ p) → ofE l' p = ofE l p
theorem ThK.nil (l : List En) : ThK l l [] := ⟨fun _ h => (by cases h), fun _ _ => rfl⟩
theorem ThK.add {l l' : List En} {D : List Th} (h : ThK l l' D) {p : Pid} (ib : Nat) (hnew : ∀ d ∈ D, d.1 ≠ p) : ThK l l' (D ++ [(p, ib, nonE (ofE l p))]) :=
 ⟨fun d hd => by
  rcases List.mem_append.1 hd with h9 | h9
  ·
   exact h.k d h9
  ·
   rw [List.mem_singleton.1 h9]
   intro x
   rw [h.u p hnew], fun q hq => h.u q (fun d hd => hq d (List.mem_append_left _ hd))⟩
theorem nonE_tkE (e : En) (x : Sc) : nonE (tkE e x) = nonE e ++ [x.1] := by simp [nonE, tkE]
theorem ThK.put {l l' : List En} {D : List Th} (h : ThK l l' D) (hn : (l'.map idE).Nodup) (hnd : (D.map (·.1)).Nodup) {k : Nat} {t : PT} {ib : Nat} {kn : List (List UInt8)} (hk : D[k]? = some (t.1, ib, kn)) : ThK l (add1 l' t) (D.set k (t.1, ib, kn ++ [t.2.1])) := by
 obtain ⟨hkl, hkk⟩ := List.getElem?_eq_some_iff.1 hk
 have hm : (t.1, ib, kn) ∈ D := by rw [← hkk]; exact List.getElem_mem hkl
 refine ⟨fun d hd x => ?_, fun q hq => ?_⟩
 ·
  rcases set_cases hd with rfl | ⟨i, hi, hne, rfl⟩
  ·
   rw [ofE_add1 t hn, if_pos rfl, nonE_tkE, List.mem_append, List.mem_append, h.k _ hm]
  ·
   have hne2 : D[i].1 ≠ t.1 := fun e => nodup_ne (f := fun d : Th => d.1) hnd hi hkl hne (by simp only [hkk]; exact e)
   rw [ofE_add1 t hn, if_neg hne2, h.k _ (List.getElem_mem hi)]
 ·
  have hset : (t.1, ib, kn ++ [t.2.1]) ∈ D.set k (t.1, ib, kn ++ [t.2.1]) := List.mem_iff_getElem.2 ⟨k, by rw [List.length_set]; exact hkl, by rw [List.getElem_set, if_pos rfl]⟩
  have hqt : t.1 ≠ q := hq _ hset
  rw [ofE_add1 t hn, if_neg (fun e => hqt e.symm)]
  refine h.u q (fun d hd => ?_)
  obtain ⟨i, hi, rfl⟩ := List.getElem_of_mem hd
  by_cases hik : i = k
  ·
   subst hik
   rw [hkk]; exact hqt
  ·
   exact hq _ (List.mem_iff_getElem.2 ⟨i, by rw [List.length_set]; exact hi, by rw [List.getElem_set, if_neg (fun e => hik e.symm)]⟩)
/-- What a purse has at a piece: an entry, or none. -/
def AtP (L : List Se) (p : Pid) (tv uv : Value) (tk : List Sc) (us : List (List UInt8)) : Prop :=
 (∃ j : Nat, L[j]? = some (⟨⟨p.1, p.2, tk, us⟩, tv, uv⟩ : Se)) ∨ ((∀ x ∈ L, idE x.e ≠ p) ∧ tv = nilV ∧ uv = nilV ∧ tk = [] ∧ us = [])
theorem AtP.of (L : List Se) (p : Pid) : ∃ tv uv tk us, AtP L p tv uv tk us := by
 by_cases h : ∃ x ∈ L, idE x.e = p
 ·
  obtain ⟨x, hx, rfl⟩ := h
  obtain ⟨j, hj, rfl⟩ := List.getElem_of_mem hx
  exact ⟨_, _, _, _, Or.inl ⟨j, List.getElem?_eq_getElem hj⟩⟩
 ·
  exact ⟨nilV, nilV, [], [], Or.inr ⟨fun x hx e => h ⟨x, hx, e⟩, rfl, rfl, rfl, rfl⟩⟩
section
variable {w w' : World} {gp gm : Nat} {L : List Se} {p : Pid} {tv uv : Value} {tk : List Sc} {us : List (List UInt8)}
theorem AtP.px (ha : AtP L p tv uv tk us) (h : PG w gp gm L) : PX w gp gm (L.map seKV) p.1 p.2 tv uv tk us := by
 rcases ha with ⟨j, hj⟩ | ⟨hn, rfl, rfl, rfl, rfl⟩
 ·
  exact h.px_in (x := ⟨⟨p.1, p.2, tk, us⟩, tv, uv⟩) (List.mem_of_getElem? hj)
 ·
  exact h.px_out hn
theorem AtP.ofE (ha : AtP L p tv uv tk us) (h : PG w gp gm L) : Go.Proofs.YtheijpjfpaghfaaGreatDoor.ofE (L.map (·.e)) p = ⟨p.1, p.2, tk, us⟩ := by
 rcases ha with ⟨j, hj⟩ | ⟨hn, rfl, rfl, rfl, rfl⟩
 ·
  exact ofE_in h.ids (e := ⟨p.1, p.2, tk, us⟩) (List.mem_map.2 ⟨_, List.mem_of_getElem? hj, rfl⟩)
 ·
  exact ofE_out (fun e he e9 => by obtain ⟨x, hx, rfl⟩ := List.mem_map.1 he; exact hn x hx e9)
theorem AtP.non (ha : AtP L p tv uv tk us) {M : Nat} (h : ∀ x ∈ L, ∀ y ∈ nonE x.e, y.length ≤ M) : ∀ y ∈ us ++ tk.map (·.1), y.length ≤ M := by
 rcases ha with ⟨j, hj⟩ | ⟨_, _, _, rfl, rfl⟩
 ·
  exact h _ (List.mem_of_getElem? hj)
 ·
  intro y hy; simp at hy
theorem AtP.sub (ha : AtP L p tv uv tk us) {b : Nat} (hb : PB gm tv uv b) : PgB gp gm L b := by
 rcases ha with ⟨j, hj⟩ | ⟨_, rfl, rfl, _⟩
 ·
  rcases hb with rfl | hb | hb
  ·
   exact .inr (.inl rfl)
  ·
   exact .inr (.inr ⟨_, List.mem_of_getElem? hj, .inl hb⟩)
  ·
   exact .inr (.inr ⟨_, List.mem_of_getElem? hj, .inr hb⟩)
 ·
  rcases hb with rfl | hb | hb
  ·
   exact .inr (.inl rfl)
  ·
   cases hb
  ·
   cases hb
/-- The entry of a piece is turned, or it is new. -/
theorem PG.upd (h : PG w gp gm L) (ha : AtP L p tv uv tk us) {x' : Se} (hid : idE x'.e = p) {L' : List (Value × Value)} (hs : Stored (L.map seKV) (pidV p.1 p.2) (stV x'.tv x'.uv) L') (hp : BL w' gp 94 [.map (some gm)]) (hm : MB Tryz.prog 39 w' gm L') (hx : SOk w' x')
  (hk : Kp (PB gm tv uv) w w') (hown : ∀ b, x'.has b → (tv.ownBlock = some b ∨ uv.ownBlock = some b) ∨ w.heap.size ≤ b) :
  ∃ L2, PG w' gp gm L2 ∧ (L2.map (·.e)).Perm (x'.e :: noId p (L.map (·.e))) ∧ ∀ b, PgB gp gm L2 b → PgB gp gm L b ∨ w.heap.size ≤ b := by
 have e1 : x'.e.s = p.1 := congrArg Prod.fst hid
 have e2 : x'.e.i = p.2 := congrArg Prod.snd hid
 rw [← e1, ← e2] at hs
 rcases ha with ⟨j, hj⟩ | ⟨hn, rfl, rfl, rfl, rfl⟩
 ·
  have hpg := h.put (x' := x') hj hid hs hp hm hx hk hown
  have hxm := List.mem_of_getElem? hj
  refine ⟨_, hpg, ?_, fun b hb => ?_⟩
  ·
   rw [List.map_set]
   have h9 := set_perm (l := L.map (·.e)) (e' := x'.e) h.ids (j := j) (e := ⟨p.1, p.2, tk, us⟩) (by rw [List.getElem?_map, hj]; rfl)
   exact h9
  ·
   rcases hb with rfl | rfl | ⟨z, hz, hb⟩
   ·
    exact .inl (.inl rfl)
   ·
    exact .inl (.inr (.inl rfl))
   ·
    rcases List.mem_or_eq_of_mem_set hz with h1 | rfl
    ·
     exact .inl (.inr (.inr ⟨z, h1, hb⟩))
    ·
     exact (hown b hb).imp (fun h1 => .inr (.inr ⟨_, hxm, h1⟩)) id
 ·
  have hown2 : ∀ b, x'.has b → w.heap.size ≤ b := fun b hb => (hown b hb).elim (fun h => h.elim (fun h => by cases h) (fun h => by cases h)) id
  have hk2 : Kp (fun b => b = gm) w w' := hk.mono (fun b _ hb => hb.elim id (fun h => h.elim (fun h => by cases h) (fun h => by cases h)))
  have hpg := h.add (x := x') hs hm hk2 hx (fun y hy e => hn y hy (e.trans hid)) (fun y hy b hb hb2 => by have := (h.ok y hy).lt hb; have := hown2 b hb2; omega) ⟨fun hb => by have := hown2 _ hb; have := h.p.lt; omega, fun hb => by have := hown2 _ hb; have := h.m.lt; omega⟩
  refine ⟨_, hpg, ?_, fun b hb => ?_⟩
  ·
   rw [noId_out (fun e he e9 => by obtain ⟨x, hx, rfl⟩ := List.mem_map.1 he; exact hn x hx e9), List.map_append]
   exact List.perm_append_comm
  ·
   rcases hb with rfl | rfl | ⟨z, hz, hb⟩
   ·
    exact .inl (.inl rfl)
   ·
    exact .inl (.inr (.inl rfl))
   ·
    rcases List.mem_append.1 hz with h1 | h1
    ·
     exact .inl (.inr (.inr ⟨z, h1, hb⟩))
    ·
     rw [List.mem_singleton.1 h1] at hb
     exact .inr (hown2 b hb)
end
end Go.Proofs.YtheijpjfpaghfaaGreatDoor
/- The program's Add, on a purse of many pieces. -/
namespace Go.Proofs.YtheijpjfpaghfaaGreatDoor
open Go Go.RowKit Go.ChangeMaps Go.MapKept Gf Sha

/-- What the program's Add leaves. -/
def PAdd (w : World) (gp gm : Nat) (L : List Se) (xs : List PT) (e : Ending) (w' : World) : Prop :=
 e = .returned (.int .i64 (adX (L.map (·.e)) xs)) ∧ (if adX (L.map (·.e)) xs = 0 then ∃ L', PG w' gp gm L' ∧ (L'.map (·.e)).Perm (addE (L.map (·.e)) xs) ∧ Kp (PgB gp gm L) w w' ∧ ∀ b, PgB gp gm L' b → PgB gp gm L b ∨ w.heap.size ≤ b else Below w.heap.size w w')
theorem PAdd.bad {w w' : World} {gp gm : Nat} {L : List Se} {xs : List PT} {z : Int} (hz : adX (L.map (·.e)) xs = z) (h0 : z ≠ 0) (hb : Below w.heap.size w w') : PAdd w gp gm L xs (.returned (.int .i64 z)) w' :=
 ⟨by rw [hz], by rw [hz, if_neg h0]; exact hb⟩
theorem size_se (L : List Se) : sizeS L = sizeE (L.map (·.e)) := by
 unfold sizeS sizeE
 rw [List.map_map]
 rfl
theorem vtA_of {xs : List PT} (h : ∀ k, (hk : k < xs.length) → vtkB xs[k].1.1 xs[k].1.2 xs[k].2 = true) : vtA xs = true := by
 unfold vtA
 rw [List.all_eq_true]
 intro t ht
 obtain ⟨k, hk, rfl⟩ := List.getElem_of_mem ht
 exact h k hk
theorem adX_not {l : List En} {xs : List PT} {k : Nat} (hk : k < xs.length) (h : vtkB xs[k].1.1 xs[k].1.2 xs[k].2 = false) : adX l xs = 1 := by
 unfold adX
 rw [if_neg]
 intro h9
 have := List.all_eq_true.1 h9 xs[k] (List.getElem_mem hk)
 rw [h] at this
 cases this
set_option maxRecDepth 100000 in
set_option maxHeartbeats 8000000 in
theorem padd_pg (w : World) (gp gm : Nat) (L : List Se) (A : Option Addr) (n c : Nat) (xs : List PT) (h : PG w gp gm L) (hx : LS rTk 4 56 w A n c xs) (hn : L.length ≤ 4096) (hsz : sizeE (L.map (·.e)) ≤ 4096) (hnon : ∀ x ∈ L, ∀ y ∈ nonE x.e, y.length ≤ 9223372036854775807) (hnx : n ≤ 1000) (hfar : ∀ a, A = some a → 0 < n → ¬ PgB gp gm L a.block) :
  Calls Tryz.prog 12 #[.pointer (some ⟨gp, 0, none⟩), .slice A n c] w (PAdd w gp gm L xs) := by
 have HP := Lib.hid h
 have HX := Lib.hid hx
 have HXL := Lib.hid hx.1
 have HN := Lib.hid hn
 have HSZ0 := Lib.hid hsz
 have HNON := Lib.hid hnon
 have HFAR := Lib.hid hfar
 obtain ⟨l, hl⟩ : ∃ l, l = L.map (·.e) := ⟨_, rfl⟩
 have HL := Lib.hid hl
 have HND : Hid ((l.map idE).Nodup) := Lib.hid (by rw [hl]; exact h.ids)
 clear h hx hn hsz hnon hfar hl
 go_enter Tryz.func12, Tryz.ntmps12
 go_wp2_with fail
 go_loopw [19] (fun iv wr => ∃ k : Nat, k ≤ n ∧ iv = .int .i64 (k : Int) ∧ Hid (∀ j, (hj : j < xs.length) → j < k → vtkB xs[j].1.1 xs[j].1.2 xs[j].2 = true) ∧ Hid (Below w.heap.size w wr)) (fun iv _ => n - (intOf iv).toNat)
 case atStart => exact ⟨0, by omega, rfl, Lib.hid (fun j _ h => absurd h (by omega)), Lib.hid (Below.refl _ _)⟩
 case round =>
  obtain ⟨k, hk, rfl, hall, hb⟩ := hrel
  obtain ⟨wx, hwx⟩ : ∃ x, x = wr := ⟨_, rfl⟩
  rw [← hwx] at hb ⊢
  clear hwx
  by_cases hlt : k < n
  ·
   obtain ⟨t, g, o, cs, ht, rfl, hat, hr⟩ := HX.out.at_ stay_tk hb.out hlt
   have hkl : k < xs.length := by rw [HXL.out]; exact hlt
   have hte : xs[k] = t := by rw [List.getElem?_eq_getElem hkl] at ht; injection ht
   obtain rfl := hr.1
   obtain ⟨⟨s, i⟩, ⟨ya, yb⟩⟩ := t
   have HAT : Hid (At wx g (o + k * 4) (tokC s i (ya, yb))) := Lib.hid hat
   have HBADV : Hid (vtkB s i (ya, yb) = false → adX (L.map (·.e)) xs = 1) := Lib.hid (fun h9 => adX_not hkl (by rw [hte]; exact h9))
   have HOKV : Hid (vtkB s i (ya, yb) = true → ∀ j, (hj : j < xs.length) → j < k + 1 → vtkB xs[j].1.1 xs[j].1.2 xs[j].2 = true) := Lib.hid (fun h9 j hj hjk => by
    by_cases hjk2 : j < k
    ·
     exact hall.out j hj hjk2
    ·
     obtain rfl : j = k := by omega
     rw [hte]
     exact h9)
   clear hat hr ht hte hkl hall
   cases h0 : idB s i with
   | false =>
    have HID := Lib.hid h0
    have HBAD : Hid (adX (L.map (·.e)) xs = 1) := Lib.hid (HBADV.out (by rw [vtkB, h0]; rfl))
    clear h0
    go_wp2_with (first
     | ((with_reducible show OpW 22); refine wpList_loadv _ rfl 45 (.tmp 21) rfl 4 (by kernel_rfl) g (o + k * 4) (tokC s i (ya, yb)) (by go_simp) HAT.out rfl ?_)
     | ((with_reducible show OpW 6); refine wpList_alloc _ rfl 45 rfl tokZ tokZero ?_; intro w3 a1 a2 a3; have HV3 := Lib.hid a1; have HX3 := Lib.hid a2; clear a1 a2 a3)
     | ((with_reducible show OpN); refine wpList_storev _ rfl 45 (.tmp 6) (.tmp 22) rfl 4 (by kernel_rfl) wx.heap.size 0 _ tokZ (tokC s i (ya, yb)) rfl rfl HV3.out rfl (tokC_one _ _ _) (by decide) ?_; intro w4 a1 a2 a3; have HV4 : Hid (BL w4 wx.heap.size 45 (tokC s i (ya, yb))) := Lib.hid a1; have HX4 : Hid (Below wx.heap.size wx w4) := Lib.hid (low_own HX3.out a2 (fun i hi e => by omega)); clear a1 a2 a3)
     | ((with_reducible show OpW 24); refine wpList_loadv _ rfl 39 (.tmp 23) rfl 2 (by kernel_rfl) wx.heap.size 0 [.string (strB s), .int .i64 i] rfl (At.left (xs := [.string (strB ya), .string (strB yb)]) (BL.all HV4.out)) rfl ?_)
     | (go_at_call 33; refine (isID_any s i w4).mono ?_; rintro e w5 ⟨rfl, b1⟩; rw [HID.out]; have HX5 := Lib.hid (below_thenB HX4.out HX4.out.size b1); have HV5 := Lib.hid (HV4.out.kept b1); have q2 : w5.cell? ⟨wx.heap.size, 2, none⟩ = some (.string (strB ya)) := BL.get (l := tokC s i (ya, yb)) HV5.out (j := 2) rfl; have q3 : w5.cell? ⟨wx.heap.size, 3, none⟩ = some (.string (strB yb)) := BL.get (l := tokC s i (ya, yb)) HV5.out (j := 3) rfl; clear b1)
     | fail)
    go_ret
    exact PAdd.bad HBAD.out (by decide) (below_thenB hb.out hb.out.size HX5.out)
   | true =>
    have HID := Lib.hid h0
    by_cases h1 : ya.length = 32
    ·
     have t1 : (((strB ya).size : Int) != 32) = false := by rw [strB_size, h1]; rfl
     by_cases h2 : yb.length = 32
     ·
      have t2 : (((strB yb).size : Int) != 32) = false := by rw [strB_size, h2]; rfl
      have HOK := Lib.hid (HOKV.out (by simp [vtkB, h0, h1, h2]))
      clear h0 h1 h2
      go_wp2_with (first
       | ((with_reducible show OpW 22); refine wpList_loadv _ rfl 45 (.tmp 21) rfl 4 (by kernel_rfl) g (o + k * 4) (tokC s i (ya, yb)) (by go_simp) HAT.out rfl ?_)
       | ((with_reducible show OpW 6); refine wpList_alloc _ rfl 45 rfl tokZ tokZero ?_; intro w3 a1 a2 a3; have HV3 := Lib.hid a1; have HX3 := Lib.hid a2; clear a1 a2 a3)
       | ((with_reducible show OpN); refine wpList_storev _ rfl 45 (.tmp 6) (.tmp 22) rfl 4 (by kernel_rfl) wx.heap.size 0 _ tokZ (tokC s i (ya, yb)) rfl rfl HV3.out rfl (tokC_one _ _ _) (by decide) ?_; intro w4 a1 a2 a3; have HV4 : Hid (BL w4 wx.heap.size 45 (tokC s i (ya, yb))) := Lib.hid a1; have HX4 : Hid (Below wx.heap.size wx w4) := Lib.hid (low_own HX3.out a2 (fun i hi e => by omega)); clear a1 a2 a3)
       | ((with_reducible show OpW 24); refine wpList_loadv _ rfl 39 (.tmp 23) rfl 2 (by kernel_rfl) wx.heap.size 0 [.string (strB s), .int .i64 i] rfl (At.left (xs := [.string (strB ya), .string (strB yb)]) (BL.all HV4.out)) rfl ?_)
       | (go_at_call 33; refine (isID_any s i w4).mono ?_; rintro e w5 ⟨rfl, b1⟩; rw [HID.out]; have HX5 := Lib.hid (below_thenB HX4.out HX4.out.size b1); have HV5 := Lib.hid (HV4.out.kept b1); have q2 : w5.cell? ⟨wx.heap.size, 2, none⟩ = some (.string (strB ya)) := BL.get (l := tokC s i (ya, yb)) HV5.out (j := 2) rfl; have q3 : w5.cell? ⟨wx.heap.size, 3, none⟩ = some (.string (strB yb)) := BL.get (l := tokC s i (ya, yb)) HV5.out (j := 3) rfl; clear b1)
       | fail)
      go_roundw
      case rel => exact ⟨k + 1, by omega, by go_num, HOK, Lib.hid (below_thenB hb.out hb.out.size HX5.out)⟩
      case measure => simp [intOf]; omega
     ·
      have t2 : (((strB yb).size : Int) != 32) = true := by rw [strB_size, bne_iff_ne]; omega
      have HBAD : Hid (adX (L.map (·.e)) xs = 1) := Lib.hid (HBADV.out (by simp [vtkB, h2]))
      clear h0 h1 h2
      go_wp2_with (first
       | ((with_reducible show OpW 22); refine wpList_loadv _ rfl 45 (.tmp 21) rfl 4 (by kernel_rfl) g (o + k * 4) (tokC s i (ya, yb)) (by go_simp) HAT.out rfl ?_)
       | ((with_reducible show OpW 6); refine wpList_alloc _ rfl 45 rfl tokZ tokZero ?_; intro w3 a1 a2 a3; have HV3 := Lib.hid a1; have HX3 := Lib.hid a2; clear a1 a2 a3)
       | ((with_reducible show OpN); refine wpList_storev _ rfl 45 (.tmp 6) (.tmp 22) rfl 4 (by kernel_rfl) wx.heap.size 0 _ tokZ (tokC s i (ya, yb)) rfl rfl HV3.out rfl (tokC_one _ _ _) (by decide) ?_; intro w4 a1 a2 a3; have HV4 : Hid (BL w4 wx.heap.size 45 (tokC s i (ya, yb))) := Lib.hid a1; have HX4 : Hid (Below wx.heap.size wx w4) := Lib.hid (low_own HX3.out a2 (fun i hi e => by omega)); clear a1 a2 a3)
       | ((with_reducible show OpW 24); refine wpList_loadv _ rfl 39 (.tmp 23) rfl 2 (by kernel_rfl) wx.heap.size 0 [.string (strB s), .int .i64 i] rfl (At.left (xs := [.string (strB ya), .string (strB yb)]) (BL.all HV4.out)) rfl ?_)
       | (go_at_call 33; refine (isID_any s i w4).mono ?_; rintro e w5 ⟨rfl, b1⟩; rw [HID.out]; have HX5 := Lib.hid (below_thenB HX4.out HX4.out.size b1); have HV5 := Lib.hid (HV4.out.kept b1); have q2 : w5.cell? ⟨wx.heap.size, 2, none⟩ = some (.string (strB ya)) := BL.get (l := tokC s i (ya, yb)) HV5.out (j := 2) rfl; have q3 : w5.cell? ⟨wx.heap.size, 3, none⟩ = some (.string (strB yb)) := BL.get (l := tokC s i (ya, yb)) HV5.out (j := 3) rfl; clear b1)
       | fail)
      go_ret
      exact PAdd.bad HBAD.out (by decide) (below_thenB hb.out hb.out.size HX5.out)
    ·
     have t1 : (((strB ya).size : Int) != 32) = true := by rw [strB_size, bne_iff_ne]; omega
     have HBAD : Hid (adX (L.map (·.e)) xs = 1) := Lib.hid (HBADV.out (by simp [vtkB, h1]))
     clear h0 h1
     go_wp2_with (first
      | ((with_reducible show OpW 22); refine wpList_loadv _ rfl 45 (.tmp 21) rfl 4 (by kernel_rfl) g (o + k * 4) (tokC s i (ya, yb)) (by go_simp) HAT.out rfl ?_)
      | ((with_reducible show OpW 6); refine wpList_alloc _ rfl 45 rfl tokZ tokZero ?_; intro w3 a1 a2 a3; have HV3 := Lib.hid a1; have HX3 := Lib.hid a2; clear a1 a2 a3)
      | ((with_reducible show OpN); refine wpList_storev _ rfl 45 (.tmp 6) (.tmp 22) rfl 4 (by kernel_rfl) wx.heap.size 0 _ tokZ (tokC s i (ya, yb)) rfl rfl HV3.out rfl (tokC_one _ _ _) (by decide) ?_; intro w4 a1 a2 a3; have HV4 : Hid (BL w4 wx.heap.size 45 (tokC s i (ya, yb))) := Lib.hid a1; have HX4 : Hid (Below wx.heap.size wx w4) := Lib.hid (low_own HX3.out a2 (fun i hi e => by omega)); clear a1 a2 a3)
      | ((with_reducible show OpW 24); refine wpList_loadv _ rfl 39 (.tmp 23) rfl 2 (by kernel_rfl) wx.heap.size 0 [.string (strB s), .int .i64 i] rfl (At.left (xs := [.string (strB ya), .string (strB yb)]) (BL.all HV4.out)) rfl ?_)
      | (go_at_call 33; refine (isID_any s i w4).mono ?_; rintro e w5 ⟨rfl, b1⟩; rw [HID.out]; have HX5 := Lib.hid (below_thenB HX4.out HX4.out.size b1); have HV5 := Lib.hid (HV4.out.kept b1); have q2 : w5.cell? ⟨wx.heap.size, 2, none⟩ = some (.string (strB ya)) := BL.get (l := tokC s i (ya, yb)) HV5.out (j := 2) rfl; have q3 : w5.cell? ⟨wx.heap.size, 3, none⟩ = some (.string (strB yb)) := BL.get (l := tokC s i (ya, yb)) HV5.out (j := 3) rfl; clear b1)
      | fail)
     go_ret
     exact PAdd.bad HBAD.out (by decide) (below_thenB hb.out hb.out.size HX5.out)
  ·
   obtain rfl : k = n := by omega
   have HVT : Hid (vtA xs = true) := Lib.hid (vtA_of (fun j hj => hall.out j hj (by rw [← HXL.out]; exact hj)))
   have HALL : Hid (∀ j, (hj : j < xs.length) → vtkB xs[j].1.1 xs[j].1.2 xs[j].2 = true) := Lib.hid (fun j hj => hall.out j hj (by rw [← HXL.out]; exact hj))
   have HB0 := Lib.hid hb.out
   clear hall
   go_wp2_with (first
    | ((with_reducible show OpW 40); refine wpList_makeMap _ rfl 115 39 rfl ?_; intro w1 a1 a2 a3; have HM1 := Lib.hid a1; have HB1 := Lib.hid (below_thenB HB0.out HB0.out.size a2); have HZ1 := Lib.hid a3; clear a1 a2 a3))
   have HK0 : Hid (w.heap.size ≤ wx.heap.size ∧ wx.heap.size < w1.heap.size) := Lib.hid ⟨HB0.out.size, by have := HZ1.out; omega⟩
   go_loopw [43] (fun iv wr => ∃ (j : Nat) (D : List Th), j ≤ k ∧ iv = .int .i64 (j : Int) ∧ Hid (ThM wr wx.heap.size D) ∧ Hid (ThK l (addE l (xs.take j)) D) ∧ Hid (dupB l xs = dupB (addE l (xs.take j)) (xs.drop j)) ∧ Hid (Below w.heap.size w wr) ∧ Hid (w1.heap.size ≤ wr.heap.size)) (fun iv _ => k - (intOf iv).toNat)
   case atStart => exact ⟨0, [], by omega, rfl, Lib.hid (ThM.nil HM1.out), Lib.hid (by rw [List.take_zero]; exact ThK.nil l), Lib.hid (by rw [List.take_zero, List.drop_zero]; rfl), HB1, Lib.hid (Nat.le_refl _)⟩
   case round =>
    clear hb HB0
    obtain ⟨j, D, hj, rfl, hth, htk, hdu, hb, hz⟩ := hrel
    obtain ⟨wy, hwy⟩ : ∃ x, x = wr := ⟨_, rfl⟩
    rw [← hwy] at hth hb hz ⊢
    clear hwy
    have HNJ : Hid (((addE l (xs.take j)).map idE).Nodup) := Lib.hid (addE_nodup _ HND.out)
    by_cases hlt : j < k
    ·
     obtain ⟨t, g, o, cs, ht, rfl, hat, hr⟩ := HX.out.at_ stay_tk hb.out hlt
     have hjl : j < xs.length := by rw [HXL.out]; exact hlt
     have hte : xs[j] = t := by rw [List.getElem?_eq_getElem hjl] at ht; injection ht
     obtain rfl := hr.1
     obtain ⟨⟨s, i⟩, ⟨ya, yb⟩⟩ := t
     have HAT : Hid (At wy g (o + j * 4) (tokC s i (ya, yb))) := Lib.hid hat
     have HTE := Lib.hid (addE_take (l := l) hjl)
     rw [hte] at HTE
     have hv := HALL.out j hjl
     rw [hte] at hv
     simp only [vtkB, Bool.and_eq_true, decide_eq_true_eq] at hv
     have hgd := idB_good hv.1
     have HPY := Lib.hid (keyPid s i (by omega) (wf_of (by omega) (by omega)))
     have HKY := Lib.hid (keyStr ya (by omega))
     have HDU : Hid (dupB l xs = (decide (ya ∈ nonE (ofE (addE l (xs.take j)) (s, i))) || dupB (addE l (xs.take (j + 1))) (xs.drop (j + 1)))) := Lib.hid (by
      rw [hdu.out, List.drop_eq_getElem_cons hjl, hte, dupB, HTE.out])
     obtain ⟨tv, uv, tk, us, hap⟩ := AtP.of L (s, i)
     have HPX := Lib.hid (hap.px HP.out)
     have HKN := Lib.hid (hap.non HNON.out)
     have HOF : Hid (nonE (ofE l (s, i)) = us ++ tk.map (·.1)) := Lib.hid (by rw [HL.out, hap.ofE HP.out]; rfl)
     have hos := ofE_size HND.out (s, i)
     rw [HL.out, hap.ofE HP.out] at hos
     have HMB : Hid (us.length + tk.length ≤ 4096) := Lib.hid (by have := HSZ0.out; simp only at hos; omega)
     clear hat hr ht hte hjl hv hgd hdu hap hos
     go_upto_if 55 with (first
      | ((with_reducible show OpW 46); refine wpList_loadv _ rfl 45 (.tmp 45) rfl 4 (by kernel_rfl) g (o + j * 4) (tokC s i (ya, yb)) (by go_simp) HAT.out rfl ?_)
      | ((with_reducible show OpW 9); refine wpList_alloc _ rfl 45 rfl tokZ tokZero ?_; intro w3 a1 a2 a3; have HV3 := Lib.hid a1; have HX3 := Lib.hid a2; clear a1 a2 a3)
      | ((with_reducible show OpN); refine wpList_storev _ rfl 45 (.tmp 9) (.tmp 46) rfl 4 (by kernel_rfl) wy.heap.size 0 _ tokZ (tokC s i (ya, yb)) rfl rfl HV3.out rfl (tokC_one _ _ _) (by decide) ?_; intro w4 a1 a2 a3; have HV4 : Hid (BL w4 wy.heap.size 45 (tokC s i (ya, yb))) := Lib.hid a1; have HX4 : Hid (Below wy.heap.size wy w4) := Lib.hid (low_own HX3.out a2 (fun i hi e => by omega)); clear a1 a2 a3)
      | ((with_reducible show OpW 50); refine wpList_loadv _ rfl 39 (.tmp 49) rfl 2 (by kernel_rfl) wy.heap.size 0 [.string (strB s), .int .i64 i] rfl (At.left (xs := [.string (strB ya), .string (strB yb)]) (BL.all HV4.out)) rfl ?_)
      | ((with_reducible show OpW 51); refine wpList_lookok _ rfl (.tmp 48) (.tmp 50) 115 39 116 rfl pidKeyed outMap (.map none) mapZero wx.heap.size _ rfl (hth.out.kept HX4.out).m (pidV s i) rfl HPY.out ?_; intro v f hf; have HFF := Lib.hid hf; clear hf))
     have HTH4 := Lib.hid (hth.out.kept HX4.out)
     have HB4 := Lib.hid (below_thenB hb.out hb.out.size HX4.out)
     have HZ4 : Hid (w1.heap.size ≤ wy.heap.size ∧ wy.heap.size < w4.heap.size) := Lib.hid ⟨hz.out, HV4.out.lt⟩
     go_cut [10] (fun v10 wq => ∃ (D' : List Th) (kk ib : Nat) (kn : List (List UInt8)), v10 = .map (some ib) ∧ Hid (ThM wq wx.heap.size D') ∧ Hid (ThK l (addE l (xs.take j)) D') ∧ Hid (D'[kk]? = some ((s, i), ib, kn)) ∧ Hid (BL wq wy.heap.size 45 (tokC s i (ya, yb))) ∧ Hid (Below w.heap.size w wq) ∧ Hid (w1.heap.size ≤ wq.heap.size))
     case first =>
      rcases hth.out.found (p := (s, i)) HFF.out with ⟨kk, ib, kn, hk1, rfl, rfl⟩ | ⟨hno, rfl, rfl⟩
      ·
       have HKK := Lib.hid hk1
       clear hk1 HFF
       go_wp2_with fail
       go_meet
       exact ⟨D, kk, ib, kn, rfl, HTH4, htk, HKK, HV4, HB4, Lib.hid (by have := HZ4.out; omega)⟩
      ·
       have HNO := Lib.hid hno
       clear hno HFF
       go_wp2_with (first
        | ((with_reducible show OpW 56); refine wpList_makeMap _ rfl 116 9 rfl ?_; intro w5 a1 a2 a3; have HI5 := Lib.hid (SetB.new a1); have HX5 := Lib.hid (below_thenB HX4.out HX4.out.size a2); have HTH5 := Lib.hid (HTH4.out.kept a2); have HV5 := Lib.hid (HV4.out.kept a2); have HZ5 := Lib.hid a3; clear a1 a2 a3))
       have HB5 := Lib.hid (below_thenB hb.out hb.out.size HX5.out)
       have HP5 := Lib.hid (HPX.out.kept HB5.out)
       have HC5 : Hid (∀ w', Below w5.heap.size w5 w' → w'.cell? ⟨gp, 0, none⟩ = some (.map (some gm)) ∧ Below w5.heap.size w5 w') := Lib.hid (fun w' hb => ⟨(HP5.out.kept hb).p.get (j := 0) rfl, hb⟩)
       refine Text.wp_region_text (fun w' => w'.cell? ⟨gp, 0, none⟩ = some (.map (some gm)) ∧ Below w5.heap.size w5 w') [(0, 4), (1, 4), (2, 4), (4, 4), (9, 4), (3, 0), (5, 0), (6, 0), (7, 2), (8, 4)] (by kernel_rfl) (by kernel_rfl) (fun _ _ _ _ _ h => h) (HC5.out _ (Below.refl _ _).drew) ?_
       iterate 5 (refine Text.purek rfl rfl (fun K hK => ⟨_, fun w' => by go_simp <;> rfl, ?_⟩); go_simp; refine hK _ ?_; clear hK K)
       (refine Text.heldk rfl rfl (fun K hK => ⟨_, fun w' hw' => by go_simp <;> rfl, ?_⟩); go_simp; refine hK _ ?_; clear hK K)
       refine Text.heldk rfl rfl (fun K hK => ?_)
       refine ⟨_, fun w' hw' => exec_loadv 39 (.tmp 61) rfl 2 (by kernel_rfl) wy.heap.size 0 [.string (strB s), .int .i64 i] rfl (At.left (xs := [.string (strB ya), .string (strB yb)]) (BL.all (HV5.out.kept hw'.2))) rfl, ?_⟩
       go_simp
       refine hK _ ?_
       clear hK K
       refine Text.heldk rfl rfl (fun K hK => ?_)
       refine ⟨_, fun w' hw' => exec_look (.tmp 60) (.tmp 62) 92 39 80 rfl pidKeyed stMap (stV nilV nilV) stZero gm _ rfl (HP5.out.kept hw'.2).m (pidV s i) rfl HPY.out (stV tv uv) (fun v f hf => HP5.out.f v f hf), ?_⟩
       go_simp
       refine hK _ ?_
       clear hK K
       refine Text.eff rfl rfl (fun K hK => ?_)
       go_simp
       refine (nonces_any w5.drew tv uv tk us ⟨HP5.out.st.t, HP5.out.st.u, HP5.out.st.bt, HP5.out.st.bu⟩).mono ?_
       rintro e w6 ⟨v6, rfl, b1, b2⟩
       have HX6 : Hid (Below w5.heap.size w5 w6) := Lib.hid (below_then (Below.refl _ _).drew (b2.mono (Nat.le_refl _)))
       obtain ⟨A6, c6, rfl, hc6⟩ := b1.1.form
       obtain ⟨m6, hm6⟩ : ∃ m, m = us.length + tk.length := ⟨_, rfl⟩
       rw [← hm6] at b1 ⊢
       have HO6 := Lib.hid b1
       have HM6 : Hid (m6 = (us ++ tk.map (·.1)).length) := Lib.hid (by rw [hm6, List.length_append, List.length_map])
       have hm0' : 0 ≤ (m6 : Int) := by omega
       have hm1' : (m6 : Int) ≤ 4096 := by have := HMB.out; omega
       clear hm6 hc6
       refine hK _ _ (HC5.out _ HX6.out) ?_
       clear hK K b1 b2
       (refine Text.purek rfl rfl (fun K hK => ⟨_, fun w' => by go_simp <;> rfl, ?_⟩); go_simp; refine hK _ ?_; clear hK K)
       refine Text.done ?_
       go_wp2_with fail
       go_loopw [66] (fun iv wr => ∃ q : Nat, q ≤ m6 ∧ iv = .int .i64 (q : Int) ∧ Hid (SetB wr w4.heap.size ((us ++ tk.map (·.1)).take q)) ∧ Hid (Kp (fun b => b = w4.heap.size) w6 wr)) (fun iv _ => m6 - (intOf iv).toNat)
       case atStart => exact ⟨0, by omega, rfl, Lib.hid (by rw [List.take_zero]; exact HI5.out.kept HX6.out), Lib.hid (Kp.refl _ _)⟩
       case round =>
        obtain ⟨q, hq, rfl, hse, hkp⟩ := hrel
        obtain ⟨wz, hwz⟩ : ∃ x, x = wr := ⟨_, rfl⟩
        rw [← hwz] at hse hkp ⊢
        clear hwz
        by_cases hlt6 : q < m6
        ·
         obtain ⟨g6, o6, c6', e6, _, hat6⟩ := HO6.out.1.at_ (by omega)
         cases e6
         have hql : q < (us ++ tk.map (·.1)).length := by rw [← HM6.out]; exact hlt6
         have r6 : w6.cell? ⟨g6, o6 + q, none⟩ = some (usC ((us ++ tk.map (·.1))[q])) := hat6 q _ (by rw [List.getElem?_map, List.getElem?_eq_getElem hql]; rfl)
         have hg6 : ¬ g6 = w4.heap.size := by
          have h1 : w5.heap.size ≤ g6 := HO6.out.2 g6 rfl
          have := HZ5.out
          omega
         have r7 := hkp.out.cell r6 hg6
         have HKY6 := Lib.hid (keyStr ((us ++ tk.map (·.1))[q]) (HKN.out _ (List.getElem_mem _)))
         have HTQ : Hid ((us ++ tk.map (·.1)).take (q + 1) = (us ++ tk.map (·.1)).take q ++ [(us ++ tk.map (·.1))[q]]) := Lib.hid (List.take_succ_eq_append_getElem hql)
         obtain ⟨y, hy⟩ : ∃ y, y = (us ++ tk.map (·.1))[q] := ⟨_, rfl⟩
         rw [← hy] at r7 HKY6 HTQ
         clear hy r6 hat6 hql
         go_wp2_with (first
          | ((with_reducible show OpN); have hse2 := hse.out; obtain ⟨Ls, l1, l2, l3⟩ := hse2; refine wpList_upd _ rfl (.tmp 70) (.tmp 71) _ 116 9 4 rfl strKeyed setMap w4.heap.size Ls rfl l1 (usC y) (.bool true) rfl rfl HKY6.out ?_; intro w7 L' h1 h2 h3 h4; have HS7 : Hid (SetB w7 w4.heap.size ((us ++ tk.map (·.1)).take q ++ [y])) := Lib.hid ⟨L', h2, set_stored l2 l3 h1⟩; have HK7 := Lib.hid (hkp.out.trans h3); clear h1 h2 h3 h4 l1 l2 l3))
         go_roundw
         case rel => exact ⟨q + 1, by omega, by go_num, Lib.hid (by rw [HTQ.out]; exact HS7.out), HK7⟩
         case measure => simp [intOf]; omega
        ·
         obtain rfl : q = m6 := by omega
         have HSZ : Hid (w.heap.size ≤ wx.heap.size ∧ wx.heap.size < w1.heap.size ∧ w1.heap.size ≤ wy.heap.size ∧ wy.heap.size < w4.heap.size) := Lib.hid ⟨HK0.out.1, HK0.out.2, HZ4.out.1, HZ4.out.2⟩
         have HBz : Hid (Below w.heap.size w wz) := Lib.hid (low_own (below_thenB HB5.out HB5.out.size HX6.out) hkp.out (fun i hi e => by have := HSZ.out; omega))
         have HVz := Lib.hid ((HV5.out.kept HX6.out).kp hkp.out (fun e => by have := HSZ.out; omega))
         have HTHz := Lib.hid ((HTH5.out.kept HX6.out).kp hkp.out (fun e => by have := HSZ.out; omega) (fun d hd e => by have := HTH4.out.lt hd; omega))
         have HSz : Hid (SetB wz w4.heap.size (nonE (ofE l (s, i)))) := Lib.hid (by
          have := hse.out
          rw [HM6.out, List.take_length] at this
          rw [HOF.out]
          exact this)
         have HZz : Hid (w5.heap.size ≤ w6.heap.size ∧ w6.heap.size ≤ wz.heap.size) := Lib.hid ⟨HX6.out.size, hkp.out.size⟩
         clear hse HI5 HC5 HP5
         go_wp2_with (first
          | ((with_reducible show OpW 75); refine wpList_loadv _ rfl 39 (.tmp 74) rfl 2 (by kernel_rfl) wy.heap.size 0 [.string (strB s), .int .i64 i] rfl (At.left (xs := [.string (strB ya), .string (strB yb)]) (BL.all HVz.out)) rfl ?_)
          | ((with_reducible show OpN); refine wpList_upd _ rfl (.tmp 73) (.tmp 75) (.tmp 76) 115 39 116 rfl pidKeyed outMap wx.heap.size _ rfl HTHz.out.m (pidV s i) (.map (some w4.heap.size)) rfl rfl HPY.out ?_; intro w8 L' h1 h2 h3 h4; have HTH8 : Hid (ThM w8 wx.heap.size (D ++ [((s, i), w4.heap.size, nonE (ofE l (s, i)))])) := Lib.hid (HTHz.out.add (p := (s, i)) HNO.out h1 h2 h3 HSz.out (by have := HSZ.out; omega) (fun d hd e => by have := HTH4.out.lt hd; omega)); have HK8 := Lib.hid h3; have HZ8 := Lib.hid h4; have HV8 := Lib.hid (HVz.out.kp h3 (fun e => by have := HSZ.out; omega)); clear h1 h2 h3 h4))
         go_meet
         exact ⟨_, D.length, w4.heap.size, nonE (ofE l (s, i)), rfl, HTH8, Lib.hid (htk.out.add _ HNO.out), Lib.hid (by simp), HV8, Lib.hid (low_own HBz.out HK8.out (fun i hi e => by have := HSZ.out; omega)), Lib.hid (by have := HSZ.out; have := HZz.out; have := HZ8.out; have := HZ5.out; omega)⟩
     case rest =>
      obtain ⟨D', kk, ib, kn, rfl, hth', htk', hkk, hv', hb', hz'⟩ := hcut
      obtain ⟨wq, hwq⟩ : ∃ x, x = wc := ⟨_, rfl⟩
      rw [← hwq] at hth' hv' hb' hz' ⊢
      clear hwq hth htk hb hz HFF HTH4 HB4 HZ4 HV4 HX4
      have hmm : ((s, i), ib, kn) ∈ D' := List.mem_of_getElem? hkk.out
      have HSE : Hid (SetB wq ib kn) := Lib.hid (hth'.out.s _ hmm)
      have HLO : Hid (wx.heap.size < ib) := Lib.hid (hth'.out.lo _ hmm)
      obtain ⟨B, hB⟩ : ∃ B, B = kn.contains ya := ⟨_, rfl⟩
      have HBB : Hid (kn.contains ya = B) := Lib.hid hB.symm
      have HDB : Hid (decide (ya ∈ nonE (ofE (addE l (xs.take j)) (s, i))) = B) := Lib.hid (by
       rw [hB, Bool.eq_iff_iff, decide_eq_true_eq, List.contains_iff_mem]
       exact (htk'.out.k _ hmm ya).symm)
      have q2 : wq.cell? ⟨wy.heap.size, 2, none⟩ = some (.string (strB ya)) := BL.get (l := tokC s i (ya, yb)) hv'.out (j := 2) rfl
      clear hB hmm
      cases B with
      | true =>
       have HBAD : Hid (adX (L.map (·.e)) xs = 5) := Lib.hid (by rw [adX, if_pos HVT.out, if_pos]; rw [← HL.out, HDU.out, HDB.out]; rfl)
       go_wp2_with (first
        | ((with_reducible show OpW 80); have hse := HSE.out; obtain ⟨Ls, l1, l2, l3⟩ := hse; refine wpList_look _ rfl (.tmp 77) (.tmp 79) 116 9 4 rfl strKeyed setMap (.bool false) boolZero ib Ls rfl l1 (usC ya) rfl HKY.out ?_; intro v f hf; obtain rfl := set_found l2 l3 hf; rw [HBB.out]; clear hf l1 l2 l3))
       go_ret
       exact PAdd.bad HBAD.out (by decide) hb'.out
      | false =>
       go_wp2_with (first
        | ((with_reducible show OpW 80); have hse := HSE.out; obtain ⟨Ls, l1, l2, l3⟩ := hse; refine wpList_look _ rfl (.tmp 77) (.tmp 79) 116 9 4 rfl strKeyed setMap (.bool false) boolZero ib Ls rfl l1 (usC ya) rfl HKY.out ?_; intro v f hf; obtain rfl := set_found l2 l3 hf; rw [HBB.out]; clear hf l1 l2 l3)
        | ((with_reducible show OpN); have hse := HSE.out; obtain ⟨Ls, l1, l2, l3⟩ := hse; refine wpList_upd _ rfl (.tmp 81) (.tmp 83) _ 116 9 4 rfl strKeyed setMap ib Ls rfl l1 (usC ya) (.bool true) rfl rfl HKY.out ?_; intro w8 L' h1 h2 h3 h4; have HS8 : Hid (SetB w8 ib (kn ++ [ya])) := Lib.hid ⟨L', h2, set_stored l2 l3 h1⟩; have HK8 := Lib.hid h3; have HZ8 := Lib.hid h4; clear h1 h2 h3 h4 l1 l2 l3))
       go_roundw
       case rel => exact ⟨j + 1, D'.set kk ((s, i), ib, kn ++ [ya]), by omega, by go_num, Lib.hid (hth'.out.put hkk.out HK8.out HS8.out), Lib.hid (by rw [HTE.out]; exact htk'.out.put HNJ.out hth'.out.nd (t := ((s, i), (ya, yb))) hkk.out), Lib.hid (by rw [HDU.out, HDB.out]; rfl), Lib.hid (low_own hb'.out HK8.out (fun i hi e => by have := HLO.out; have := HK0.out; omega)), Lib.hid (by have := HZ8.out; have := hz'.out; omega)⟩
       case measure => simp [intOf]; omega
    ·
     obtain rfl : j = k := by omega
     have HDF : Hid (dupB l xs = false) := Lib.hid (by rw [hdu.out, ← HXL.out, List.drop_length]; rfl)
     have HBY := Lib.hid hb.out
     clear hdu hth htk hz hb
     obtain ⟨sz, hsz⟩ : ∃ sz, sz = sizeS L := ⟨_, rfl⟩
     have HSZN := Lib.hid hsz
     have HSZL : Hid (sz = sizeE l) := Lib.hid (by rw [hsz, size_se, HL.out])
     have hszb : sz ≤ 4096 := by have := HSZ0.out; rw [hsz, size_se]; omega
     obtain ⟨fz, hfz⟩ : ∃ fz, fz = 4096 - sz := ⟨_, rfl⟩
     have hfw : IntKind.i64.wrap (4096 - (sz : Int)) = (fz : Int) := by
      rw [show (4096 : Int) - (sz : Int) = (fz : Int) by omega]
      exact IntWalk.i64_in _ (by omega)
     have HPy := Lib.hid (HP.out.kept HBY.out)
     by_cases hbig : fz < j
     ·
      have HBAD : Hid (adX (L.map (·.e)) xs = 7) := Lib.hid (by
       rw [← HL.out, adX, if_pos HVT.out, if_neg (by rw [HDF.out]; decide), if_pos]
       rw [sizeE_addE xs HND.out, HXL.out, ← HSZL.out]
       omega)
      have hgt : decide ((fz : Int) < (j : Int)) = true := decide_eq_true (by omega)
      clear hsz hfz
      go_wp2_with (first
       | (go_at_call 40; refine (psize_any wy gp gm L HPy.out (by have := HN.out; omega)).mono ?_; rintro e w5 ⟨rfl, b1⟩; rw [← HSZN.out]; have HB5 := Lib.hid (below_thenB HBY.out HBY.out.size b1); clear b1))
      go_ret
      exact PAdd.bad HBAD.out (by decide) HB5.out
     ·
      have HGOOD : Hid (adX (L.map (·.e)) xs = 0) := Lib.hid (by
       rw [← HL.out, adX, if_pos HVT.out, if_neg (by rw [HDF.out]; decide), if_neg]
       rw [sizeE_addE xs HND.out, HXL.out, ← HSZL.out]
       omega)
      have HTOT : Hid (sizeE l + j ≤ 4096) := Lib.hid (by rw [← HSZL.out]; omega)
      have hgt : decide ((fz : Int) < (j : Int)) = false := decide_eq_false (by omega)
      have hgt2 : ¬ fz < j := hbig
      clear hsz hfz
      go_wp2_with (first
       | (go_at_call 40; refine (psize_any wy gp gm L HPy.out (by have := HN.out; omega)).mono ?_; rintro e w5 ⟨rfl, b1⟩; rw [← HSZN.out]; have HB5 := Lib.hid (below_thenB HBY.out HBY.out.size b1); have HP5 := Lib.hid (HPy.out.kept b1); have q0 := HP5.out.p.get (j := 0) rfl; clear b1)
       | ((with_reducible show OpW 95); refine wpList_run _ rfl _ _ (exec_eqMap (x := .tmp 94) (gm := gm) rfl rfl) ?_))
      clear hfw hgt hgt2 q0 hbig HPy
      go_loopw [102] (fun iv wr => ∃ (q : Nat) (Lq : List Se), q ≤ j ∧ iv = .int .i64 (q : Int) ∧ Hid (PG wr gp gm Lq) ∧ Hid ((Lq.map (·.e)).Perm (addE l (xs.take q))) ∧ Hid (Kp (PgB gp gm L) w wr) ∧ Hid (∀ b, PgB gp gm Lq b → PgB gp gm L b ∨ w.heap.size ≤ b)) (fun iv _ => j - (intOf iv).toNat)
      case atStart => exact ⟨0, L, by omega, rfl, HP5, Lib.hid (by rw [List.take_zero, HL.out]; exact List.Perm.refl _), Lib.hid (Kp.of_below HB5.out), Lib.hid (fun b hb => .inl hb)⟩
      case round =>
       obtain ⟨q, Lq, hq, rfl, hp, hpm, hkw, how⟩ := hrel
       obtain ⟨wz, hwz⟩ : ∃ x, x = wr := ⟨_, rfl⟩
       rw [← hwz] at hp hkw ⊢
       clear hwz
       by_cases hlt3 : q < j
       ·
        obtain ⟨t, g, o, cs, ht, rfl, hat, hr⟩ := HX.out.at_ stay_tk (Below.refl _ _) hlt3
        have hql : q < xs.length := by rw [HXL.out]; exact hlt3
        have hte : xs[q] = t := by rw [List.getElem?_eq_getElem hql] at ht; injection ht
        obtain rfl := hr.1
        obtain ⟨⟨s, i⟩, ⟨ya, yb⟩⟩ := t
        have HAT : Hid (At wz g (o + q * 4) (tokC s i (ya, yb))) := Lib.hid (hat.kp hkw.out (HFAR.out _ rfl (by omega)))
        have HTE := Lib.hid (addE_take (l := l) hql)
        rw [hte] at HTE
        have hv := HALL.out q hql
        rw [hte] at hv
        simp only [vtkB, Bool.and_eq_true, decide_eq_true_eq] at hv
        have hgd := idB_good hv.1
        have HWI := Lib.hid (show s.length ≤ 9223372036854775807 ∧ (Lit.int .i64 i).wf = true from ⟨by omega, wf_of (by omega) (by omega)⟩)
        have HPY := Lib.hid (keyPid s i HWI.out.1 HWI.out.2)
        obtain ⟨tv, uv, tk, us, hap⟩ := AtP.of Lq (s, i)
        have HAP := Lib.hid hap
        have HPX := Lib.hid (hap.px hp.out)
        have HOF : Hid (ofE (addE l (xs.take q)) (s, i) = ⟨s, i, tk, us⟩) := Lib.hid (by rw [← ofE_perm hpm.out hp.out.ids]; exact hap.ofE hp.out)
        have hos := ofE_size (addE_nodup (xs.take q) HND.out) (s, i)
        rw [HOF.out, sizeE_addE _ HND.out, List.length_take] at hos
        have HML : Hid (tk.length + us.length + 1 ≤ 4096) := Lib.hid (by have := HTOT.out; simp only at hos; omega)
        clear hat hr ht hte hql hv hgd hap hos
        obtain ⟨A', c', e', hc'⟩ := HPX.out.st.t.form
        obtain ⟨A2, c2, x2, _⟩ := HPX.out.st.u.form
        have HO : Hid (∀ v ∈ [tv, uv], v.oneCell' = true) := Lib.hid (by
         intro v hv
         simp only [List.mem_cons, List.not_mem_nil, or_false] at hv
         rcases hv with rfl | rfl
         ·
          rw [e']; rfl
         ·
          rw [x2]; rfl)
        clear e' x2 hc'
        obtain ⟨m', hm'⟩ : ∃ m', m' = tk.length := ⟨_, rfl⟩
        have HMM := Lib.hid hm'
        have HMB' : Hid (m' ≤ 4096) := Lib.hid (by have := HML.out; omega)
        clear hm'
        go_wp2_with (first
         | ((with_reducible show OpW 105); refine wpList_loadv _ rfl 45 (.tmp 104) rfl 4 (by kernel_rfl) g (o + q * 4) (tokC s i (ya, yb)) (by go_simp) HAT.out rfl ?_)
         | ((with_reducible show OpW 15); refine wpList_alloc _ rfl 45 rfl tokZ tokZero ?_; intro w3 a1 a2 a3; have HV3 := Lib.hid a1; have HX3 := Lib.hid a2; clear a1 a2 a3)
         | ((with_reducible show OpN); refine wpList_storev _ rfl 45 (.tmp 15) (.tmp 105) rfl 4 (by kernel_rfl) wz.heap.size 0 _ tokZ (tokC s i (ya, yb)) rfl rfl HV3.out rfl (tokC_one _ _ _) (by decide) ?_; intro w4 a1 a2 a3; have HV4 : Hid (BL w4 wz.heap.size 45 (tokC s i (ya, yb))) := Lib.hid a1; have HX4 : Hid (Below wz.heap.size wz w4) := Lib.hid (low_own HX3.out a2 (fun i hi e => by omega)); clear a1 a2 a3))
        have HP4 := Lib.hid (HPX.out.kept HX4.out)
        have HC4 : Hid (∀ w', Below w4.heap.size w4 w' → w'.cell? ⟨gp, 0, none⟩ = some (.map (some gm)) ∧ Below w4.heap.size w4 w') := Lib.hid (fun w' hb => ⟨(HP4.out.kept hb).p.get (j := 0) rfl, hb⟩)
        refine Text.wp_region_text (fun w' => w'.cell? ⟨gp, 0, none⟩ = some (.map (some gm)) ∧ Below w4.heap.size w4 w') [(0, 4), (1, 4), (2, 4), (4, 4), (3, 0), (5, 0), (6, 0), (7, 2), (8, 2)] (by kernel_rfl) (by kernel_rfl) (fun _ _ _ _ _ h => h) (HC4.out _ (Below.refl _ _).drew) ?_
        iterate 4 (refine Text.purek rfl rfl (fun K hK => ⟨_, fun w' => by go_simp <;> rfl, ?_⟩); go_simp; refine hK _ ?_; clear hK K)
        (refine Text.heldk rfl rfl (fun K hK => ⟨_, fun w' hw' => by go_simp <;> rfl, ?_⟩); go_simp; refine hK _ ?_; clear hK K)
        refine Text.heldk rfl rfl (fun K hK => ?_)
        refine ⟨_, fun w' hw' => exec_loadv 39 (.tmp 110) rfl 2 (by kernel_rfl) wz.heap.size 0 [.string (strB s), .int .i64 i] rfl (At.left (xs := [.string (strB ya), .string (strB yb)]) (BL.all (HV4.out.kept hw'.2))) rfl, ?_⟩
        go_simp
        refine hK _ ?_
        clear hK K
        refine Text.heldk rfl rfl (fun K hK => ?_)
        refine ⟨_, fun w' hw' => exec_look (.tmp 109) (.tmp 111) 92 39 80 rfl pidKeyed stMap (stV nilV nilV) stZero gm _ rfl (HP4.out.kept hw'.2).m (pidV s i) rfl HPY.out (stV tv uv) (fun v f hf => HP4.out.f v f hf), ?_⟩
        go_simp
        refine hK _ ?_
        clear hK K
        refine Text.eff rfl rfl (fun K hK => ?_)
        refine wp_alloc 80 rfl [nilV, nilV] stZero' ?_
        intro w5a a1 a2 a3
        have HS5 := Lib.hid a1
        have HX5 : Hid (Below w4.heap.size w4 w5a) := Lib.hid (below_then (Below.refl _ _).drew (a2.mono (Nat.le_refl _)))
        have HZ5 : Hid (w5a.heap.size = w4.heap.size + 1) := Lib.hid a3
        refine hK _ _ (HC4.out _ HX5.out) ?_
        clear hK K a1 a2 a3
        refine Text.eff rfl rfl (fun K hK => ?_)
        refine wp_storev 80 (.tmp 16) (.tmp 112) rfl 2 (by kernel_rfl) w4.heap.size 0 _ [nilV, nilV] [tv, uv] rfl rfl HS5.out rfl HO.out (by decide) ?_
        intro w6 a1 a2 a3
        have HS6 : Hid (BL w6 w4.heap.size 80 [tv, uv]) := Lib.hid a1
        have HX6 : Hid (Below w4.heap.size w4 w6) := Lib.hid (low_own HX5.out a2 (fun i hi e => by omega))
        have HZ6 : Hid (w6.heap.size = w4.heap.size + 1) := Lib.hid (by rw [a3]; exact HZ5.out)
        refine hK _ _ (HC4.out _ HX6.out) ?_
        clear hK K a1 a2 a3
        refine Text.done ?_
        have q0 := HS6.out.get (j := 0) rfl
        have HV6 := Lib.hid (HV4.out.kept HX6.out)
        have q2 : w6.cell? ⟨wz.heap.size, 2, none⟩ = some (.string (strB ya)) := BL.get (l := tokC s i (ya, yb)) HV6.out (j := 2) rfl
        have q3 : w6.cell? ⟨wz.heap.size, 3, none⟩ = some (.string (strB yb)) := BL.get (l := tokC s i (ya, yb)) HV6.out (j := 3) rfl
        have HT6 : Hid (RW w6 109 2 tv m' (tk.flatMap scC)) := Lib.hid (by have := (HP4.out.kept HX6.out).st.t; rw [← HMM.out] at this; exact this)
        go_wp2_with (first
         | ((with_reducible show OpW 120); refine wpList_bslice _ rfl 78 109 1 _ rfl #[(0, .agg #[.string (strB ya), .string (strB yb)])] (by rw [List.map_toArray]; rfl) (scC (ya, yb)) (bslSec ya yb _) ?_; intro w7 a1 a2 a3; have HG7 := Lib.hid a1; have HX7 := Lib.hid a2; have HZ7 := Lib.hid a3; have HT7 := Lib.hid (HT6.out.kept a2); have HS7 := Lib.hid (HS6.out.kept a2); clear a1 a2 a3)
         | ((with_reducible show OpW 121); obtain ⟨iS, i1, i2, i3, i4⟩ := info_some infoSec; refine wpList_appRW _ rfl (.tmp 114) (.tmp 120) 78 109 2 iS _ rfl Tryz.underlying78 i1 i2 i3 rfl tv m' _ rfl HT7.out w6.heap.size (scC (ya, yb)) rfl HG7.out rfl (scC_one _) (by rw [i4]; have := HMB'.out; omega) (by have := HMB'.out; omega) ?_; intro tv2 w8 a1; have HR8 := Lib.hid a1; have HS8 := Lib.hid (HS7.out.kp a1.kp (fun hb => by have h1 := HPX.out.lt (.inr (.inl hb)); have h2 := HX4.out.size; omega)); clear a1 i1 i2 i3 i4)
         | ((with_reducible show OpN); refine wpList_store1 _ rfl 78 (.tmp 122) (.tmp 121) rfl (one_size _ (by kernel_rfl)) w4.heap.size 0 80 _ tv2 rfl rfl HS8.out (by obtain ⟨A2, c2, e2, _⟩ := HR8.out.row.form; rw [e2]; rfl) (by obtain ⟨A2, c2, e2, _⟩ := HR8.out.row.form; rw [e2]; rfl) (by simp) ?_; intro w9 a1 a2 a3; have HS9 : Hid (BL w9 w4.heap.size 80 [tv2, uv]) := Lib.hid a1; have HK9 := Lib.hid a2; have HZ9 := Lib.hid a3; clear a1 a2 a3 q0 q2 q3))
        have HLT : Hid (∀ b, tv.ownBlock = some b → b < wz.heap.size) := Lib.hid (fun b hb => HPX.out.lt (.inr (.inl hb)))
        have HLU : Hid (∀ b, uv.ownBlock = some b → b < wz.heap.size) := Lib.hid (fun b hb => HPX.out.lt (.inr (.inr hb)))
        have HW4 : Hid (wz.heap.size < w4.heap.size) := Lib.hid HV4.out.lt
        have HB7 : Hid (Below wz.heap.size wz w7) := Lib.hid (below_thenB (below_thenB HX4.out HX4.out.size HX6.out) (by have := HX4.out.size; have := HX6.out.size; omega) HX7.out)
        have HKZ : Hid (Kp (fun b => tv.ownBlock = some b) wz w9) := Lib.hid (((Kp.of_below HB7.out).after HR8.out.kp (fun i hi e => e)).after HK9.out (fun i hi e => by have := HW4.out; omega))
        have HKV : Hid (Kp (fun b => tv.ownBlock = some b ∨ b = w4.heap.size) w7 w9) := Lib.hid (((Kp.refl _ w7).after HR8.out.kp (fun i hi e => .inl e)).after HK9.out (fun i hi e => .inr e))
        have HV9 := Lib.hid ((HV6.out.kept HX7.out).kp HKV.out (fun e => e.elim (fun e => by have := HLT.out _ e; omega) (fun e => by have := HW4.out; omega)))
        have HP9 := Lib.hid (HPX.out.p.kp HKZ.out (fun e => HPX.out.gp_not (.inr (.inl e))))
        have HM9 := Lib.hid (HPX.out.m.kp HKZ.out (fun e => HPX.out.gm_tv e))
        have HU9 := Lib.hid (HPX.out.st.u.kp HKZ.out (fun b hb e => HPX.out.tv_uv e hb))
        have HR9 := Lib.hid (HR8.out.row.kp HK9.out (fun b hb e => (HR8.out.own b hb).elim (fun h1 => by have := HLT.out _ h1; have := HW4.out; omega) (fun h1 => by have := HZ7.out; have := HZ6.out; omega)))
        have HC9 : Hid (∀ w', Below w9.heap.size w9 w' → w'.cell? ⟨gp, 0, none⟩ = some (.map (some gm)) ∧ Below w9.heap.size w9 w') := Lib.hid (fun w' hb => ⟨(HP9.out.kept hb).get (j := 0) rfl, hb⟩)
        refine Text.wp_region_text (fun w' => w'.cell? ⟨gp, 0, none⟩ = some (.map (some gm)) ∧ Below w9.heap.size w9 w') [(0, 4), (1, 4), (2, 4), (4, 4), (3, 0), (5, 0), (6, 0), (7, 3)] (by kernel_rfl) (by kernel_rfl) (fun _ _ _ _ _ h => h) (HC9.out _ (Below.refl _ _).drew) ?_
        iterate 4 (refine Text.purek rfl rfl (fun K hK => ⟨_, fun w' => by go_simp <;> rfl, ?_⟩); go_simp; refine hK _ ?_; clear hK K)
        (refine Text.heldk rfl rfl (fun K hK => ⟨_, fun w' hw' => by go_simp <;> rfl, ?_⟩); go_simp; refine hK _ ?_; clear hK K)
        refine Text.heldk rfl rfl (fun K hK => ?_)
        refine ⟨_, fun w' hw' => exec_loadv 39 (.tmp 127) rfl 2 (by kernel_rfl) wz.heap.size 0 [.string (strB s), .int .i64 i] rfl (At.left (xs := [.string (strB ya), .string (strB yb)]) (BL.all (HV9.out.kept hw'.2))) rfl, ?_⟩
        go_simp
        refine hK _ ?_
        clear hK K
        refine Text.heldk rfl rfl (fun K hK => ?_)
        refine ⟨_, fun w' hw' => exec_loadv 80 (.tmp 16) rfl 2 (by kernel_rfl) w4.heap.size 0 [tv2, uv] rfl (BL.all (HS9.out.kept hw'.2)) rfl, ?_⟩
        go_simp
        refine hK _ ?_
        clear hK K
        refine Text.last rfl rfl (fun K hK => ?_)
        refine wp_upd (.tmp 126) (.tmp 128) (.tmp 129) 92 39 80 rfl pidKeyed stMap gm _ rfl HM9.out.drew (pidV s i) (stV tv2 uv) rfl rfl HPY.out ?_
        intro w10 L' h1 h2 h3 h4
        have HST := Lib.hid h1
        have HM10 := Lib.hid h2
        have HK10 : Hid (Kp (· = gm) w9 w10) := Lib.hid ((Kp.refl _ w9).drew.trans h3)
        refine hK _ _ ?_
        clear hK K h1 h2 h3 h4
        refine Text.done ?_
        go_wp2_with fail
        go_roundw
        case rel =>
         have hown : ∀ b, tv2.ownBlock = some b → tv.ownBlock = some b ∨ wz.heap.size ≤ b := fun b hb => (HR8.out.own b hb).imp id (fun h1 => by have := HB7.out.size; omega)
         have hkk : Kp (PB gm tv uv) wz w10 := (HKZ.out.mono (fun b _ hb => .inr (.inl hb))).after HK10.out (fun b hb e => .inl e)
         have hgmt : ¬ tv2.ownBlock = some gm := fun e => (hown gm e).elim (fun h => HPX.out.gm_tv h) (fun h => by have := HPX.out.m.lt; omega)
         have hsx : SOk w10 ⟨⟨s, i, tk ++ [(ya, yb)], us⟩, tv2, uv⟩ := by
          refine ⟨⟨?_, ?_, by show (tk ++ [(ya, yb)]).length ≤ 100000; rw [List.length_append, List.length_singleton]; have := HML.out; omega, by show us.length ≤ 100000; have := HML.out; omega⟩, fun b hb hb2 => (hown b hb).elim (fun h => HPX.out.tv_uv h hb2) (fun h => by have := HLU.out b hb2; omega), HWI.out.1, HWI.out.2⟩
          ·
           have h9 := HR9.out.kp HK10.out (fun b hb e => hgmt (by rw [← e]; exact hb))
           show RW w10 109 2 tv2 (tk ++ [(ya, yb)]).length ((tk ++ [(ya, yb)]).flatMap scC)
           rw [List.flatMap_append, List.length_append, List.length_singleton, ← HMM.out]
           simpa using h9
          ·
           exact HU9.out.kp HK10.out (fun b hb e => HPX.out.gm_uv (by rw [← e]; exact hb))
         obtain ⟨L2, g1, g2, g3⟩ := hp.out.upd HAP.out (x' := ⟨⟨s, i, tk ++ [(ya, yb)], us⟩, tv2, uv⟩) rfl HST.out (HP9.out.kp HK10.out (fun e => hp.out.ne e)) HM10.out hsx hkk (fun b hb => hb.elim (fun h => (hown b h).imp .inl id) (fun h => .inl (.inr h)))
         refine ⟨q + 1, L2, by omega, by go_num, Lib.hid g1, Lib.hid ?_, Lib.hid (hkw.out.after hkk (fun b hb e => (how.out b (HAP.out.sub e)).resolve_right (by omega))), Lib.hid (fun b hb => (g3 b hb).elim (how.out b) (fun h => .inr (by have := hkw.out.size; omega)))⟩
         rw [HTE.out]
         have h8 := add1_perm (addE l (xs.take q)) ((s, i), (ya, yb))
         simp only [HOF.out] at h8
         exact (g2.trans ((noId_perm hpm.out _).cons _)).trans h8.symm
        case measure => simp [intOf]; omega
       ·
        obtain rfl : q = j := by omega
        have HE : Hid ((Lq.map (·.e)).Perm (addE (L.map (·.e)) xs)) := Lib.hid (by have h9 := hpm.out; rw [← HXL.out, List.take_length, HL.out] at h9; exact h9)
        clear hpm
        go_wp2_with fail
        go_ret
        exact ⟨by rw [HGOOD.out]; rfl, by rw [HGOOD.out, if_pos rfl]; exact ⟨Lq, hp.out, HE.out, hkw.out, how.out⟩⟩
end Go.Proofs.YtheijpjfpaghfaaGreatDoor
