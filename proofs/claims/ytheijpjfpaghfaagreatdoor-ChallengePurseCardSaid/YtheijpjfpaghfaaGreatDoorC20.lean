/- Several texts in one: Mer4, Ol, Mer5, Mt6, Mt7, Mt8, Mf, Gen. -/
import Derived.Test.YtheijpjfpaghfaaGreatDoorC13
import Derived.Test.YtheijpjfpaghfaaGreatDoorC19
import Derived.Test.YtheijpjfpaghfaaGreatDoorC18
import Derived.Test.YtheijpjfpaghfaaGreatDoorC11
import Derived.OwnWalk
/- Contract of the reference's See; proofs (a block's number, data, path) as a list; Proven of the program and of the reference. -/
namespace Go.Proofs.YtheijpjfpaghfaaGreatDoor
open Go Go.RowKit Gf Sha

end Go.Proofs.YtheijpjfpaghfaaGreatDoor
/- Lists that a loop builds by append: elements of many cells, their parts in memory that was there before. For any program. -/
namespace Go.Proofs.YtheijpjfpaghfaaGreatDoor
open Go Go.RowKit Gf Sha

theorem at_flatten {w : World} {g s : Nat} : ∀ {css : List (List Value)} {o : Nat}, (∀ cs ∈ css, cs.length = s) → At w g o css.flatten → ∀ {k : Nat} (hk : k < css.length), At w g (o + k * s) css[k]
 | [], _, _, _, k, hk => absurd hk (by simp)
 | c :: r, o, h, hat, k, hk => by
  have hc : c.length = s := h c (by simp)
  rw [List.flatten_cons] at hat
  cases k with
  | zero => rw [Nat.zero_mul, Nat.add_zero]; exact hat.left
  | succ k =>
   have h2 : At w g (o + s) r.flatten := fun j v hj => by
    have := hat (s + j) v (by rw [List.getElem?_append_right (by omega), hc, Nat.add_sub_cancel_left]; exact hj)
    rw [Nat.add_assoc]; exact this
   have := at_flatten (fun cs hcs => h cs (by simp [hcs])) h2 (k := k) (by simpa using hk)
   rw [Nat.succ_mul, show o + (k * s + s) = o + s + k * s by omega]
   exact this
theorem flatten_len {s : Nat} : ∀ {css : List (List Value)}, (∀ cs ∈ css, cs.length = s) → css.flatten.length = css.length * s
 | [], _ => by simp
 | c :: r, h => by
  rw [List.flatten_cons, List.length_append, h c (by simp), flatten_len (fun cs hcs => h cs (by simp [hcs])), List.length_cons, Nat.succ_mul]; omega

/-- v holds the list L, in a block of its own that is newer than w0; its parts read in w0. -/
def OL {α : Type} (R : Rdg α) (s : Nat) (te : TypeId) (w0 w : World) (v : Value) (L : List α) : Prop :=
 ∃ css : List (List Value), css.length = L.length ∧ (∀ cs ∈ css, cs.length = s) ∧ (∀ k (h : k < L.length) (h' : k < css.length), R w0 css[k] L[k]) ∧ RW w te s v L.length css.flatten ∧ ∀ b, v.ownBlock = some b → w0.heap.size ≤ b
section
variable {α : Type} {R : Rdg α} {s : Nat} {te : TypeId} {w0 w w' : World} {v v' : Value} {L : List α}
theorem OL.nil (R : Rdg α) (s : Nat) (te : TypeId) (w0 w : World) : OL R s te w0 w (.slice none 0 0) [] := ⟨[], rfl, (fun _ h => by cases h), (fun k h => absurd h (by simp)), RW.nil _ _ _, (fun b hb => by cases hb)⟩
theorem OL.kept (h : OL R s te w0 w v L) (hb : Below w.heap.size w w') : OL R s te w0 w' v L :=
 let ⟨css, h1, h2, h3, h4, h5⟩ := h; ⟨css, h1, h2, h3, h4.kept hb, h5⟩
theorem OL.row (h : OL R s te w0 w v L) : ∃ cs, RW w te s v L.length cs := let ⟨_, _, _, _, h4, _⟩ := h; ⟨_, h4⟩
theorem OL.own (h : OL R s te w0 w v L) : ∀ b, v.ownBlock = some b → w0.heap.size ≤ b := let ⟨_, _, _, _, _, h5⟩ := h; h5
/-- Pushed: the append's row is what the law on append takes. -/
theorem OL.push {n : Nat} {css : List (List Value)} (hl : css.length = L.length) (h2 : ∀ cs ∈ css, cs.length = s) (h3 : ∀ k (h : k < L.length) (h' : k < css.length), R w0 css[k] L[k]) (h5 : ∀ b, v.ownBlock = some b → w0.heap.size ≤ b) (hn : L.length = n)
  {x : α} {xs : List Value} (hxs : xs.length = s) (hx : R w0 xs x) (hw : w0.heap.size ≤ w.heap.size) (ap : AppR w te s v n 1 css.flatten xs v' w') : OL R s te w0 w' v' (L ++ [x]) := by
 refine ⟨css ++ [xs], by simp [hl], fun cs hcs => ?_, fun k hk hk' => ?_, ?_, fun b hb => (ap.own b hb).elim (h5 b) (fun h => Nat.le_trans hw h)⟩
 ·
  rcases List.mem_append.1 hcs with h | h
  ·
   exact h2 cs h
  ·
   rw [List.mem_singleton.1 h]; exact hxs
 ·
  by_cases hlt : k < L.length
  ·
   rw [List.getElem_append_left (by omega), List.getElem_append_left hlt]; exact h3 k hlt (by omega)
  ·
   have e : k = L.length := by simp at hk; omega
   subst e
   rw [List.getElem_append_right (by omega), List.getElem_append_right (by omega)]
   simp only [hl, Nat.sub_self, List.getElem_cons_zero]
   exact hx
 ·
  have := ap.row
  rw [List.flatten_append, List.flatten_cons, List.flatten_nil, List.append_nil, List.length_append, hn]
  exact this
theorem OL.ls {b : Nat} (h : OL R s te w0 w v L) (hR : Stay R) (hb : Below w0.heap.size w0 w) (hl : L.length * b ≤ lim) : ∃ A c, v = .slice A L.length c ∧ LS R s b w A L.length c L := by
 obtain ⟨css, h1, h2, h3, h4, h5⟩ := h
 obtain ⟨A, c, rfl, hc⟩ := h4.form
 refine ⟨A, c, rfl, rfl, hc, hl, fun k hk => ?_⟩
 obtain ⟨g, o, c', e, _, hat⟩ := h4.at_ (by omega)
 cases e
 have hk' : k < css.length := by omega
 exact ⟨g, o, css[k], rfl, at_flatten h2 hat hk', hR _ _ _ _ (h3 k hk hk') hb⟩
end
end Go.Proofs.YtheijpjfpaghfaaGreatDoor
/- The law's plain: proofs of the program as proofs of the reference. -/
namespace Go.Proofs.YtheijpjfpaghfaaGreatDoor
open Go Go.RowKit Gf Sha

end Go.Proofs.YtheijpjfpaghfaaGreatDoor
/- Copies of bytes; the reference's Show; lists of proofs whose parts are new. -/
namespace Go.Proofs.YtheijpjfpaghfaaGreatDoor
open Go Go.RowKit Gf Sha

/-- Bytes of the call's own. -/
def OwnB (w : World) (base : Nat) (v : Value) (n : Nat) (x : List UInt8) : Prop := RW w 5 1 v n (x.map B) ∧ ∀ b, v.ownBlock = some b → base ≤ b
theorem OwnB.kept {w w' : World} {base n : Nat} {v : Value} {x : List UInt8} (h : OwnB w base v n x) (hb : Below w.heap.size w w') : OwnB w' base v n x := ⟨h.1.kept hb, h.2⟩
theorem BS.of_rw {w : World} {n : Nat} {A : Option Addr} {c : Nat} {x : List UInt8} (h : RW w 5 1 (.slice A n c) n (x.map B)) (hn : n ≤ lim) : BS w A n c x := by
 have hl : x.length = n := by have := h.1; simpa using this
 obtain ⟨A', c', e, hc⟩ := h.form
 cases e
 refine ⟨hl, hc, hn, fun k hk => ?_⟩
 obtain ⟨g, o, c', e, _, hat⟩ := h.at_ (by omega)
 cases e
 refine ⟨g, o, rfl, ?_⟩
 have := hat k _ (by rw [List.getElem?_map, List.getElem?_eq_getElem (by omega)]; rfl)
 show w.cell? ⟨g, o + k, none⟩ = some (B (gB x k))
 rw [gB_eq (by omega)]
 exact this
theorem TS.of_rw {w : World} {n : Nat} {A : Option Addr} {c : Nat} {m : List (List UInt8)} (h : RW w 9 1 (.slice A n c) n (m.map usC)) (hn : n * 16 ≤ lim) : TS w A n c m := by
 have hl : m.length = n := by have := h.1; simpa using this
 obtain ⟨A', c', e, hc⟩ := h.form
 cases e
 refine ⟨hl, hc, hn, fun k hk => ?_⟩
 obtain ⟨g, o, c', e, _, hat⟩ := h.at_ (by omega)
 cases e
 refine ⟨g, o, rfl, ?_⟩
 have := hat k _ (by rw [List.getElem?_map, List.getElem?_eq_getElem (by omega)]; rfl)
 show w.cell? ⟨g, o + k, none⟩ = some (.string (strB (gR m k)))
 rw [gR_eq (by omega)]
 exact this
theorem BS.form {w : World} {A : Option Addr} {n c : Nat} {x : List UInt8} (h : BS w A n c x) (hn : 0 < n) : ∃ g o, A = some ⟨g, o, none⟩ := by
 obtain ⟨g, o, e, _⟩ := h.2.2.2 0 hn
 exact ⟨g, o, e⟩

theorem BS.sub {w : World} {g o n c : Nat} {x : List UInt8} (h : BS w (some ⟨g, o, none⟩) n c x) {lo hi : Nat} (h1 : lo ≤ hi) (h2 : hi ≤ n) : BS w (some ⟨g, o + lo, none⟩) (hi - lo) (c - lo) ((x.drop lo).take (hi - lo)) := by
 have hl := h.1
 refine ⟨by rw [List.length_take, List.length_drop]; omega, by have := h.2.1; omega, by have := h.2.2.1; omega, fun k hk => ⟨g, o + lo, rfl, ?_⟩⟩
 obtain ⟨g', o', e, hc⟩ := h.2.2.2 (lo + k) (by omega)
 cases e
 show w.cell? ⟨g, o + lo + k, none⟩ = some (B (gB ((x.drop lo).take (hi - lo)) k))
 rw [gB_eq (by rw [List.length_take, List.length_drop]; omega), List.getElem_take, List.getElem_drop, Nat.add_assoc]
 have hc : w.cell? ⟨g, o + (lo + k), none⟩ = some (B (gB x (lo + k))) := hc
 rw [gB_eq (by omega)] at hc
 exact hc

end Go.Proofs.YtheijpjfpaghfaaGreatDoor
/- challenge.Prove and the reference's: the proofs of the spots. -/
namespace Go.Proofs.YtheijpjfpaghfaaGreatDoor
open Go Go.RowKit Gf Sha

/-- v holds the list L; whatever turns in v's own block, the parts read on. -/
def OLn {α : Type} (R : Rdg α) (s : Nat) (te : TypeId) (base : Nat) (w : World) (v : Value) (L : List α) : Prop :=
 ∃ css : List (List Value), css.length = L.length ∧ (∀ cs ∈ css, cs.length = s) ∧ (∀ w', Kp (fun b => v.ownBlock = some b) w w' → ∀ k (h : k < L.length) (h' : k < css.length), R w' css[k] L[k]) ∧ RW w te s v L.length css.flatten ∧ ∀ b, v.ownBlock = some b → base ≤ b
section
variable {α : Type} {R : Rdg α} {s base : Nat} {te : TypeId} {w w' : World} {v v' : Value} {L : List α}
theorem Kp.before {S : Nat → Prop} {w w1 w2 : World} (h : Below w.heap.size w w1) (k : Kp S w1 w2) : Kp S w w2 := (Kp.of_below h).trans k
theorem OLn.kept (h : OLn R s te base w v L) (hb : Below w.heap.size w w') : OLn R s te base w' v L :=
 let ⟨css, h1, h2, h3, h4, h5⟩ := h; ⟨css, h1, h2, fun w'' hk => h3 w'' (Kp.before hb hk), h4.kept hb, h5⟩
theorem OLn.push {n : Nat} {css : List (List Value)} (hl : css.length = L.length) (h2 : ∀ cs ∈ css, cs.length = s) (h3 : ∀ w', Kp (fun b => v.ownBlock = some b) w w' → ∀ k (h : k < L.length) (h' : k < css.length), R w' css[k] L[k]) (h5 : ∀ b, v.ownBlock = some b → base ≤ b) (hn : L.length = n)
  {x : α} {xs : List Value} (hxs : xs.length = s) (hx : ∀ w', Kp (fun b => v.ownBlock = some b) w w' → R w' xs x) (hw : base ≤ w.heap.size) (ap : AppR w te s v n 1 css.flatten xs v' w') : OLn R s te base w' v' (L ++ [x]) := by
 have hk : ∀ w'', Kp (fun b => v'.ownBlock = some b) w' w'' → Kp (fun b => v.ownBlock = some b) w w'' := fun w'' h => ap.kp.after h (fun i hi e => (ap.own i e).elim id (fun h => absurd h (by omega)))
 refine ⟨css ++ [xs], by simp [hl], fun cs hcs => ?_, fun w'' hk'' k hk1 hk2 => ?_, ?_, fun b hb => (ap.own b hb).elim (h5 b) (fun h => Nat.le_trans hw h)⟩
 ·
  rcases List.mem_append.1 hcs with h | h
  ·
   exact h2 cs h
  ·
   rw [List.mem_singleton.1 h]; exact hxs
 ·
  by_cases hlt : k < L.length
  ·
   rw [List.getElem_append_left (by omega), List.getElem_append_left hlt]; exact h3 w'' (hk w'' hk'') k hlt (by omega)
  ·
   have e : k = L.length := by simp at hk1; omega
   subst e
   rw [List.getElem_append_right (by omega), List.getElem_append_right (by omega)]
   simp only [hl, Nat.sub_self, List.getElem_cons_zero]
   exact hx w'' (hk w'' hk'')
 ·
  have := ap.row
  rw [List.flatten_append, List.flatten_cons, List.flatten_nil, List.append_nil, List.length_append, hn]
  exact this
theorem OLn.ls {b : Nat} (h : OLn R s te base w v L) (hl : L.length * b ≤ lim) : ∃ A c, v = .slice A L.length c ∧ LS R s b w A L.length c L := by
 obtain ⟨css, h1, h2, h3, h4, h5⟩ := h
 obtain ⟨A, c, rfl, hc⟩ := h4.form
 refine ⟨A, c, rfl, rfl, hc, hl, fun k hk => ?_⟩
 obtain ⟨g, o, c', e, _, hat⟩ := h4.at_ (by omega)
 cases e
 have hk' : k < css.length := by omega
 exact ⟨g, o, css[k], rfl, at_flatten h2 hat hk', h3 w (Kp.refl _ _) k hk hk'⟩
end

end Go.Proofs.YtheijpjfpaghfaaGreatDoor
/- challenge.Prove. -/
namespace Go.Proofs.YtheijpjfpaghfaaGreatDoor
open Go Go.RowKit Gf Sha

/-- Block g holds the first of n elements, zeros behind them; whatever turns in it, the parts read on. -/
def BLn {α : Type} (R : Rdg α) (s : Nat) (te : TypeId) (z : List Value) (n : Nat) (w : World) (g : Nat) (L : List α) : Prop :=
 ∃ css : List (List Value), css.length = L.length ∧ (∀ cs ∈ css, cs.length = s) ∧ (∀ w', Kp (· = g) w w' → ∀ k (h : k < L.length) (h' : k < css.length), R w' css[k] L[k]) ∧ L.length ≤ n ∧ BL w g te (css.flatten ++ (List.replicate (n - L.length) ()).flatMap fun _ => z)
section
variable {α : Type} {R : Rdg α} {s n g : Nat} {te : TypeId} {z : List Value} {w w' : World} {L : List α}
theorem BLn.nil (R : Rdg α) (s : Nat) (h : BL w g te ((List.replicate n ()).flatMap fun _ => z)) : BLn R s te z n w g [] :=
 ⟨[], rfl, (fun _ h => by cases h), (fun _ _ k h => absurd h (by simp)), Nat.zero_le _, by simpa using h⟩
theorem BLn.kept (h : BLn R s te z n w g L) (hb : Below w.heap.size w w') : BLn R s te z n w' g L :=
 let ⟨css, h1, h2, h3, h4, h5⟩ := h; ⟨css, h1, h2, fun w'' hk => h3 w'' (Kp.before hb hk), h4, h5.kept hb⟩
theorem BLn.blk (h : BLn R s te z n w g L) (hz : z.length = s) : ∃ l, BL w g te l ∧ l.length = n * s := by
 obtain ⟨css, h1, h2, h3, h4, h5⟩ := h
 refine ⟨_, h5, ?_⟩
 rw [List.length_append, flatten_len h2, flat_length (s := s) (fun _ => hz), List.length_replicate, h1, ← Nat.add_mul]
 congr 1; omega
/-- One more laid. -/
theorem BLn.put {x : α} {xs : List Value} (h : BLn R s te z n w g L) (hz : z.length = s) (hlt : L.length < n) (hxs : xs.length = s) (hx : ∀ w', Kp (· = g) w w' → R w' xs x) {l : List Value} (hl : BL w g te l)
  (hw : BL w' g te (splice l (L.length * s) xs)) (hk : Kp (· = g) w w') : BLn R s te z n w' g (L ++ [x]) := by
 obtain ⟨css, h1, h2, h3, h4, h5⟩ := h
 have e : l = css.flatten ++ (List.replicate (n - L.length) ()).flatMap fun _ => z := by
  have := hl.symm.trans h5
  injection this with this
  injection this with this
  have := congrArg Array.toList this
  simpa using this
 subst e
 obtain ⟨j, hj⟩ : ∃ j, n - L.length = j + 1 := ⟨n - L.length - 1, by omega⟩
 refine ⟨css ++ [xs], by simp [h1], fun cs hcs => ?_, fun w'' hk'' k hk1 hk2 => ?_, by simp; omega, ?_⟩
 ·
  rcases List.mem_append.1 hcs with h | h
  ·
   exact h2 cs h
  ·
   rw [List.mem_singleton.1 h]; exact hxs
 ·
  by_cases hlt' : k < L.length
  ·
   rw [List.getElem_append_left (by omega), List.getElem_append_left hlt']; exact h3 w'' (hk.trans hk'') k hlt' (by omega)
  ·
   have e : k = L.length := by simp at hk1; omega
   subst e
   rw [List.getElem_append_right (by omega), List.getElem_append_right (by omega)]
   simp only [h1, Nat.sub_self, List.getElem_cons_zero]
   exact hx w'' (hk.trans hk'')
 ·
  rw [hj, List.replicate_succ, List.flatMap_cons, ← List.append_assoc, splice_mid _ _ _ _ _ (by rw [flatten_len h2, h1]) (by rw [hxs, hz])] at hw
  rw [List.flatten_append, List.flatten_cons, List.flatten_nil, List.append_nil, List.length_append, List.length_singleton, show n - (L.length + 1) = j by omega]
  exact hw
theorem BLn.ls {b : Nat} (h : BLn R s te z n w g L) (hl : L.length = n) (hb : n * b ≤ lim) : LS R s b w (some ⟨g, 0, none⟩) n n L := by
 obtain ⟨css, h1, h2, h3, h4, h5⟩ := h
 rw [hl, Nat.sub_self, List.replicate_zero, List.flatMap_nil, List.append_nil] at h5
 refine ⟨hl, Nat.le_refl _, hb, fun k hk => ?_⟩
 have hk' : k < css.length := by omega
 refine ⟨g, 0, css[k], rfl, at_flatten h2 h5.all hk', h3 w (Kp.refl _ _) k hk hk'⟩
end

end Go.Proofs.YtheijpjfpaghfaaGreatDoor
/- Maps of the call's own as functions from keys to values. For any program. -/
namespace Go.Proofs.YtheijpjfpaghfaaGreatDoor
open Go Go.RowKit Go.ChangeMaps Go.MapKept Gf
open Go.Maps (Keyed)

/-- Block b is a map that has for the key enc x the value f x, where there is one, and no other keys. -/
def MF {κ : Type} (P : Program) (k : TypeId) (enc : κ → Value) (w : World) (b : Nat) (f : κ → Option Value) : Prop :=
 ∃ L, MB P k w b L ∧ (∀ x v, (enc x, v) ∈ L ↔ f x = some v) ∧ ∀ p ∈ L, ∃ x, p.1 = enc x

section
variable {κ : Type} {P : Program} {k : TypeId} {enc : κ → Value} {w w' : World} {b : Nat} {f : κ → Option Value}
theorem MF.lt (h : MF P k enc w b f) : b < w.heap.size := let ⟨_, h1, _⟩ := h; h1.lt
theorem MF.kept (h : MF P k enc w b f) (hb : Below w.heap.size w w') : MF P k enc w' b f := let ⟨L, h1, h2⟩ := h; ⟨L, h1.kept hb, h2⟩
theorem MF.kp {S : Nat → Prop} (h : MF P k enc w b f) (hb : Kp S w w') (hn : ¬ S b) : MF P k enc w' b f := let ⟨L, h1, h2⟩ := h; ⟨L, h1.kp hb hn, h2⟩
theorem MF.new (h : MB P k w b []) : MF P k enc w b (fun _ => none) := ⟨[], h, (fun x v => by simp), (fun p hp => by cases hp)⟩
theorem mf_stored [DecidableEq κ] (hinj : ∀ x y, enc x = enc y → x = y) {L L' : List (Value × Value)} (hn : (L.map (·.1)).Nodup) (h2 : ∀ x v, (enc x, v) ∈ L ↔ f x = some v) (h3 : ∀ p ∈ L, ∃ x, p.1 = enc x) {x : κ} {v : Value} (h : Stored L (enc x) v L') :
  (∀ y u, (enc y, u) ∈ L' ↔ (if y = x then some v else f y) = some u) ∧ ∀ p ∈ L', ∃ y, p.1 = enc y := by
 cases h with
 | new h =>
  refine ⟨fun y u => ?_, fun p hp => ?_⟩
  ·
   rw [List.mem_append, List.mem_singleton]
   by_cases hy : y = x
   ·
    subst hy
    rw [if_pos rfl]
    constructor
    ·
     rintro (h9 | h9)
     ·
      exact absurd rfl (h _ h9)
     ·
      injection h9 with _ h9; rw [h9]
    ·
     intro h9; injection h9 with h9; rw [h9]; exact .inr rfl
   ·
    rw [if_neg hy, ← h2]
    constructor
    ·
     rintro (h9 | h9)
     ·
      exact h9
     ·
      injection h9 with h9 _; exact absurd (hinj _ _ h9) hy
    ·
     exact .inl
  ·
   rcases List.mem_append.1 hp with hp | hp
   ·
    exact h3 p hp
   ·
    rw [List.mem_singleton.1 hp]; exact ⟨x, rfl⟩
 | old i u0 h =>
  obtain ⟨hi, hu⟩ := List.getElem?_eq_some_iff.1 h
  have hmem : ∀ q, q ∈ L.set i (enc x, v) ↔ q = (enc x, v) ∨ (q ∈ L ∧ q.1 ≠ enc x) := by
   intro q
   constructor
   ·
    intro hq
    obtain ⟨j, hj, e⟩ := List.getElem_of_mem hq
    rw [List.length_set] at hj
    by_cases hij : i = j
    ·
     subst hij; rw [List.getElem_set_self] at e; exact .inl e.symm
    ·
     rw [List.getElem_set_ne hij] at e
     refine .inr ⟨by rw [← e]; exact List.getElem_mem hj, fun hk => hij ?_⟩
     have hp := List.pairwise_iff_getElem.1 (show (L.map (·.1)).Pairwise (· ≠ ·) from hn)
     rcases Nat.lt_trichotomy i j with hlt | he | hlt
     ·
      exact absurd (by rw [List.getElem_map, List.getElem_map, hu, e]; exact hk.symm) (hp i j (by simpa using hi) (by simpa using hj) hlt)
     ·
      exact he
     ·
      exact absurd (by rw [List.getElem_map, List.getElem_map, hu, e]; exact hk) (hp j i (by simpa using hj) (by simpa using hi) hlt)
   ·
    rintro (rfl | ⟨hq, hne⟩)
    ·
     exact List.mem_iff_getElem.2 ⟨i, by rw [List.length_set]; exact hi, List.getElem_set_self _⟩
    ·
     obtain ⟨j, hj, e⟩ := List.getElem_of_mem hq
     have hij : i ≠ j := fun e9 => by subst e9; rw [hu] at e; rw [← e] at hne; exact hne rfl
     exact List.mem_iff_getElem.2 ⟨j, by rw [List.length_set]; exact hj, by rw [List.getElem_set_ne hij]; exact e⟩
  refine ⟨fun y u => ?_, fun p hp => ?_⟩
  ·
   rw [hmem]
   by_cases hy : y = x
   ·
    subst hy
    rw [if_pos rfl]
    constructor
    ·
     rintro (h9 | ⟨_, h9⟩)
     ·
      injection h9 with _ h9; rw [h9]
     ·
      exact absurd rfl h9
    ·
     intro h9; injection h9 with h9; rw [h9]; exact .inl rfl
   ·
    rw [if_neg hy, ← h2]
    constructor
    ·
     rintro (h9 | h9)
     ·
      injection h9 with h9 _; exact absurd (hinj _ _ h9) hy
     ·
      exact h9.1
    ·
     intro h9; exact .inr ⟨h9, fun e => hy (hinj _ _ e)⟩
  ·
   rcases (hmem p).1 hp with rfl | hp
   ·
    exact ⟨x, rfl⟩
   ·
    exact h3 p hp.1
end

section
variable {κ : Type} {P : Program} (w : World) {ops : Array Oper} {rest : List Oper} {o : Oper} {a : Act} {Q : Exit → Act → World → Prop} {enc : κ → Value}
end
end Go.Proofs.YtheijpjfpaghfaaGreatDoor
/- Rows, lists of strings: what speaks of no chapter. -/
namespace Go.Proofs.YtheijpjfpaghfaaGreatDoor
open Go Go.RowKit Gf Sha

section
variable {P : Program} {w : World} {o : Oper} {a : Act} {Q : Exit → Act → World → Prop} {K : Act → World → Prop}
end

section
variable {w w' : World}
end
section
variable {w : World} {o : Oper} {a : Act} {Q : Exit → Act → World → Prop} {K : Act → World → Prop}
end
section
variable {P : Program} (w : World) {o : Oper} {a : Act} {Q : Exit → Act → World → Prop} {K : Act → World → Prop}
end
section
variable {α : Type} {R : Rdg α} {s base : Nat} {te : TypeId} {w w' : World} {v v' : Value} {L : List α}
end

section
variable {α : Type} {R : Rdg α} {s n g : Nat} {te : TypeId} {z : List Value} {w w' : World} {L : List α}
end

end Go.Proofs.YtheijpjfpaghfaaGreatDoor
