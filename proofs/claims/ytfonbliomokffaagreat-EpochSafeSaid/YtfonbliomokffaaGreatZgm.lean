/- The town of EpochSafe in memory. -/
import Derived.Test.YtfonbliomokffaaGreatD1
import Derived.Test.YtfonbliomokffaaGreatZfm
import Derived.Test.YtfonbliomokffaaGreatAdm
namespace Go.Proofs.YtfonbliomokffaaGreat
open Go Go.RowKit Gf Sha

/-- An entry whose body lies in a block of bytes. -/
def EnT (w : World) (cs : List Value) : Prop := ∀ (A : Option Addr) (n c : Nat), Value.slice A n c ∈ cs → ∀ a, A = some a → ∃ l, BL w a.block 5 l
def rEnT : Rdg En := fun w cs x => rEn w cs x ∧ EnT w cs
theorem rEnT.kp {w w' : World} {cs : List Value} {x : En} {S : Nat → Prop} (h : rEnT w cs x) (hk : Kp S w w') (hS : ∀ i l, BL w i 5 l → ¬ S i) : rEnT w' cs x := by
 obtain ⟨⟨A, n, c, rfl, hb, hr⟩, ht⟩ := h
 refine ⟨⟨A, n, c, rfl, hb.kpf hk (fun g o _ e => ?_), hr⟩, fun A' n' c' hm a e => ?_⟩
 ·
  obtain ⟨l, hl⟩ := ht A n c (by simp) _ e
  exact hS _ l hl
 ·
  obtain ⟨l, hl⟩ := ht A' n' c' hm a e
  exact ⟨l, hk.bl hl (hS _ l hl)⟩
theorem stay_ent : Stay rEnT := fun _ _ _ _ ⟨h, ht⟩ hb => ⟨stay_en _ _ _ _ h hb, fun A n c hm a e => let ⟨l, hl⟩ := ht A n c hm a e; ⟨l, hl.kept hb⟩⟩
theorem len_ent {w : World} : ∀ cs x, rEnT w cs x → cs.length = 6 := fun cs x h => len_en cs x h.1
theorem ones_ent {w : World} : ∀ cs x, rEnT w cs x → ∀ u ∈ cs, u.oneCell' = true := fun cs x h => ones_en cs x h.1
/-- The cells of a town; v are its logs. -/
def tC (T : Tn) (v : Nat → Value) (j : Nat) : Value :=
 if j < 3 then v j else if j < 12 then .int .i64 ((T.vw (j - 3) : Nat) : Int) else if j < 21 then .bool (T.wr (j - 12)) else if j < 45 then .bool (T.nd (j - 21)) else if j < 48 then .bool (T.ex (j - 45)) else if j = 48 then .bool T.ad else .int .i64 T.bw
def tCs (T : Tn) (v : Nat → Value) : List Value := (List.range 50).map (tC T v)
theorem tCs_len (T : Tn) (v : Nat → Value) : (tCs T v).length = 50 := by simp [tCs]
theorem tCs_get (T : Tn) (v : Nat → Value) {j : Nat} (h : j < 50) : (tCs T v)[j]? = some (tC T v j) := by
 rw [tCs, List.getElem?_map, List.getElem?_range h]; rfl
theorem tCs_set {T T' : Tn} {v v' : Nat → Value} {i : Nat} {u : Value} (h : ∀ j, j < 50 → tC T' v' j = if j = i then u else tC T v j) : (tCs T v).set i u = tCs T' v' := by
 apply List.ext_getElem?
 intro k
 rw [List.getElem?_set, tCs_len]
 by_cases hk : k < 50
 ·
  rw [tCs_get _ _ hk, tCs_get _ _ hk, h k hk]
  by_cases e : i = k
  ·
   subst e; rw [if_pos rfl, if_pos hk, if_pos rfl]
  ·
   rw [if_neg e, if_neg (fun h => e h.symm)]
 ·
  rw [List.getElem?_eq_none (l := tCs T v) (by rw [tCs_len]; omega), List.getElem?_eq_none (l := tCs T' v') (by rw [tCs_len]; omega)]
  split
  ·
   split
   ·
    omega
   ·
    rfl
  ·
   rfl
theorem tCs_splice {T T' : Tn} {v : Nat → Value} {i : Nat} {us : List Value} (hi : i + us.length ≤ 50) (h : ∀ j, j < 50 → tC T' v j = if j < i then tC T v j else if j < i + us.length then (us[j - i]?).getD undef else tC T v j) : splice (tCs T v) i us = tCs T' v := by
 apply List.ext_getElem?
 intro k
 rw [splice_get (by rw [tCs_len]; exact hi)]
 by_cases hk : k < 50
 ·
  rw [tCs_get _ _ hk, tCs_get _ _ hk, h k hk]
  by_cases h1 : k < i
  ·
   rw [if_pos h1, if_pos h1]
  ·
   rw [if_neg h1, if_neg h1]
   by_cases h2 : k < i + us.length
   ·
    rw [if_pos h2, if_pos h2, List.getElem?_eq_getElem (by omega)]; rfl
   ·
    rw [if_neg h2, if_neg h2]
 ·
  rw [List.getElem?_eq_none (l := tCs T' v) (by rw [tCs_len]; omega), if_neg (by omega), if_neg (by omega), List.getElem?_eq_none (by rw [tCs_len]; omega)]
/-- A town at a pointer, its logs' lists. -/
structure TM (w0 w : World) (g : Nat) (T : Tn) (v : Nat → Value) : Prop where
 bl : BL w g 53 (tCs T v)
 lg : ∀ d, d < 3 → OT rEnT 6 33 w0.heap.size w (v d) (T.lg d)
 ne : ∀ d, d < 3 → ∀ d', d' < 3 → d ≠ d' → ∀ b, (v d).ownBlock = some b → ¬ (v d').ownBlock = some b
 low : Below w0.heap.size w0 w
 hg : w0.heap.size ≤ g
section
variable {w0 w w' : World} {g : Nat} {T : Tn} {v : Nat → Value}
theorem TM.kept (h : TM w0 w g T v) (hb : Below w.heap.size w w') : TM w0 w' g T v :=
 ⟨h.bl.kept hb, fun d hd => (h.lg d hd).kept stay_ent hb, h.ne, below_thenB h.low h.low.size hb, h.hg⟩
theorem TM.drew (h : TM w0 w g T v) : TM w0 w.drew g T v := h.kept (Below.refl _ _).drew
/-- Cells that hold no log are written. -/
theorem TM.put (h : TM w0 w g T v) {T' : Tn} (hb : BL w' g 53 (tCs T' v)) (hk : Kp (· = g) w w') (hl : T'.lg = T.lg) : TM w0 w' g T' v :=
 ⟨hb, fun d hd => by
  rw [hl]
  obtain ⟨css, h1, h2, h3, h4, h5⟩ := h.lg d hd
  exact ⟨css, h1, h2, fun k hk1 hk2 => (h3 k hk1 hk2).kp hk (fun i l hl => hl.ne h.bl (by decide)), h4.kp hk (h4.ne_bl h.bl (by decide)), h5⟩, h.ne, low_kp h.low hk (fun i hi e => by have := h.hg; omega), h.hg⟩
theorem TM.cell (h : TM w0 w g T v) {j : Nat} (hj : j < 50) : w.cell? ⟨g, j, none⟩ = some (tC T v j) := h.bl.get (tCs_get T v hj)
theorem TM.cv (h : TM w0 w g T v) {u d : Nat} (hu : u < 3) (hd : d < 3) : w.cell? ⟨g, 3 + u * 3 + d, none⟩ = some (.int .i64 ((T.vw (3 * u + d) : Nat) : Int)) := by
 rw [h.cell (by omega)]
 unfold tC
 rw [if_neg (by omega), if_pos (by omega), show 3 + u * 3 + d - 3 = 3 * u + d by omega]
theorem TM.cw (h : TM w0 w g T v) {u d : Nat} (hu : u < 3) (hd : d < 3) : w.cell? ⟨g, 12 + u * 3 + d, none⟩ = some (.bool (T.wr (3 * u + d))) := by
 rw [h.cell (by omega)]
 unfold tC
 rw [if_neg (by omega), if_neg (by omega), if_pos (by omega), show 12 + u * 3 + d - 12 = 3 * u + d by omega]
theorem TM.cn (h : TM w0 w g T v) {u s : Nat} (hu : u < 3) (hs : s < 8) : w.cell? ⟨g, 21 + u * 8 + s, none⟩ = some (.bool (T.nd (8 * u + s))) := by
 rw [h.cell (by omega)]
 unfold tC
 rw [if_neg (by omega), if_neg (by omega), if_neg (by omega), if_pos (by omega), show 21 + u * 8 + s - 21 = 8 * u + s by omega]
theorem TM.ce (h : TM w0 w g T v) {d : Nat} (hd : d < 3) : w.cell? ⟨g, 45 + d, none⟩ = some (.bool (T.ex d)) := by
 rw [h.cell (by omega)]
 unfold tC
 rw [if_neg (by omega), if_neg (by omega), if_neg (by omega), if_neg (by omega), if_pos (by omega), show 45 + d - 45 = d by omega]
theorem TM.ca (h : TM w0 w g T v) : w.cell? ⟨g, 48, none⟩ = some (.bool T.ad) := h.cell (by omega)
theorem TM.cb (h : TM w0 w g T v) : w.cell? ⟨g, 49, none⟩ = some (.int .i64 T.bw) := h.cell (by omega)
theorem TM.cl (h : TM w0 w g T v) {d : Nat} (hd : d < 3) : w.cell? ⟨g, d, none⟩ = some (v d) := by
 rw [h.cell (by omega)]
 unfold tC
 rw [if_pos hd]
/-- A log's slice. -/
theorem TM.ls (h : TM w0 w g T v) {d : Nat} (hd : d < 3) (hl : (T.lg d).length ≤ 100000) : ∃ A c, v d = .slice A (T.lg d).length c ∧ LS rEnT 6 72 w A (T.lg d).length c (T.lg d) := (h.lg d hd).ls (by unfold lim; omega)
/-- What a store turns in the cells. -/
theorem set_vw {z : Nat} {u d : Nat} (hu : u < 3) (hd : d < 3) : (tCs T v).set (3 + u * 3 + d) (.int .i64 ((z : Nat) : Int)) = tCs { T with vw := up T.vw (3 * u + d) z } v := tCs_set (fun j hj => by
 unfold tC up
 by_cases e : j = 3 + u * 3 + d
 ·
  subst e
  rw [if_pos rfl, if_neg (by omega), if_pos (by omega)]
  simp only []
  rw [if_pos (by omega)]
 ·
  rw [if_neg e]
  simp only []
  split
  ·
   rfl
  ·
   split
   ·
    rw [if_neg (by omega)]
   ·
    rfl)
theorem set_wr {z : Bool} {u d : Nat} (hu : u < 3) (hd : d < 3) : (tCs T v).set (12 + u * 3 + d) (.bool z) = tCs { T with wr := up T.wr (3 * u + d) z } v := tCs_set (fun j hj => by
 unfold tC up
 by_cases e : j = 12 + u * 3 + d
 ·
  subst e
  rw [if_pos rfl, if_neg (by omega), if_neg (by omega), if_pos (by omega)]
  simp only []
  rw [if_pos (by omega)]
 ·
  rw [if_neg e]
  simp only []
  split
  ·
   rfl
  ·
   split
   ·
    rfl
   ·
    split
    ·
     rw [if_neg (by omega)]
    ·
     rfl)
theorem set_nd {z : Bool} {u s : Nat} (hu : u < 3) (hs : s < 8) : (tCs T v).set (21 + u * 8 + s) (.bool z) = tCs { T with nd := up T.nd (8 * u + s) z } v := tCs_set (fun j hj => by
 unfold tC up
 by_cases e : j = 21 + u * 8 + s
 ·
  subst e
  rw [if_pos rfl, if_neg (by omega), if_neg (by omega), if_neg (by omega), if_pos (by omega)]
  simp only []
  rw [if_pos (by omega)]
 ·
  rw [if_neg e]
  simp only []
  split
  ·
   rfl
  ·
   split
   ·
    rfl
   ·
    split
    ·
     rfl
    ·
     split
     ·
      rw [if_neg (by omega)]
     ·
      rfl)
theorem set_ex {z : Bool} {d : Nat} (hd : d < 3) : (tCs T v).set (45 + d) (.bool z) = tCs { T with ex := up T.ex d z } v := tCs_set (fun j hj => by
 unfold tC up
 by_cases e : j = 45 + d
 ·
  subst e
  rw [if_pos rfl, if_neg (by omega), if_neg (by omega), if_neg (by omega), if_neg (by omega), if_pos (by omega)]
  simp only []
  rw [if_pos (by omega)]
 ·
  rw [if_neg e]
  simp only []
  split
  ·
   rfl
  ·
   split
   ·
    rfl
   ·
    split
    ·
     rfl
    ·
     split
     ·
      rfl
     ·
      split
      ·
       rw [if_neg (by omega)]
      ·
       rfl)
theorem set_ad {z : Bool} : (tCs T v).set 48 (.bool z) = tCs { T with ad := z } v := tCs_set (fun j hj => by
 unfold tC
 by_cases e : j = 48
 ·
  subst e; rfl
 ·
  rw [if_neg e]
  simp only [if_neg e])
theorem set_bw {z : Int} : (tCs T v).set 49 (.int .i64 z) = tCs { T with bw := z } v := tCs_set (fun j hj => by
 unfold tC
 by_cases e : j = 49
 ·
  subst e; rfl
 ·
  rw [if_neg e]
  simp only []
  split
  ·
   rfl
  ·
   split
   ·
    rfl
   ·
    split
    ·
     rfl
    ·
     split
     ·
      rfl
     ·
      split
      ·
       rfl
      ·
       split
       ·
        rfl
       ·
        omega)
theorem set_lg {L : List En} {z : Value} {d : Nat} (hd : d < 3) : (tCs T v).set d z = tCs { T with lg := up T.lg d L } (up v d z) := tCs_set (fun j hj => by
 unfold tC up
 by_cases e : j = d
 ·
  subst e; rw [if_pos rfl, if_pos hd, if_pos rfl]
 ·
  rw [if_neg e]
  split
  ·
   rfl
  ·
   rfl)
end
end Go.Proofs.YtfonbliomokffaaGreat
