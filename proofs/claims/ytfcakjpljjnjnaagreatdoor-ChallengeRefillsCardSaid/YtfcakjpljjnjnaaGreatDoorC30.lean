/- Several texts in one: Elim, Elim2. -/
import Derived.Test.YtfcakjpljjnjnaaGreatDoorC29
import Derived.Test.YtfcakjpljjnjnaaGreatDoorC4
import Derived.Test.YtfcakjpljjnjnaaGreatDoorC6
/- Contracts of package matrix: clear, the search for a pivot, reduce, eliminate, Inverse. -/
namespace Go.Proofs.YtfcakjpljjnjnaaGreatDoor
open Go.RowKit Gf

attribute [local go_sem] Gf.xor_bits Gf.and_bits Gf.or_bits Gf.ne_zero_iff Gf.eq_zero_iff Gf.eq_one_iff Gf.beq_bytes Gf.bne_bytes Gf.bv_toNat

/-- The pivot's row, divided by the pivot. -/
def prow (m : List (List UInt8)) (top col : Nat) : List UInt8 := (gR m top).map (mul (inv (gB (gR m top) col)))
/-- Row i after the first k rounds of clear. -/
def clrow (m : List (List UInt8)) (top col k i : Nat) : List UInt8 :=
 if i = top then prow m top col else if i < k ∧ gB (gR m i) col ≠ 0 then muladd (gR m i) (prow m top col) (gB (gR m i) col) else gR m i
def clr (m : List (List UInt8)) (top col k : Nat) : List (List UInt8) := (List.range m.length).map (clrow m top col k)
theorem clr_length (m : List (List UInt8)) (top col k : Nat) : (clr m top col k).length = m.length := by simp [clr]
theorem clr_get (m : List (List UInt8)) (top col k i : Nat) (h : i < m.length) : gR (clr m top col k) i = clrow m top col k i := by
 rw [gR_eq (by rw [clr_length]; exact h)]; simp [clr]
theorem clr_zero (m : List (List UInt8)) (top col : Nat) (_h : top < m.length) : m.set top (prow m top col) = clr m top col 0 := by
 apply List.ext_getElem (by simp [clr])
 intro i h1 h2
 have hi : i < m.length := by simpa using h1
 rw [List.getElem_set]
 simp only [clr, List.getElem_map, List.getElem_range, clrow]
 by_cases e : top = i
 ·
  rw [if_pos e, if_pos e.symm]
 ·
  rw [if_neg e, if_neg (Ne.symm e), if_neg (by omega), gR_eq hi]
theorem clr_skip (m : List (List UInt8)) (top col k : Nat) (h : k = top ∨ gB (gR m k) col = 0) : clr m top col k = clr m top col (k + 1) := by
 apply List.ext_getElem (by simp [clr])
 intro i h1 h2
 simp only [clr, List.getElem_map, List.getElem_range, clrow]
 by_cases e : i = top
 ·
  rw [if_pos e, if_pos e]
 ·
  rw [if_neg e, if_neg e]
  by_cases e2 : i < k
  ·
   by_cases e3 : gB (gR m i) col ≠ 0
   ·
    rw [if_pos ⟨e2, e3⟩, if_pos ⟨by omega, e3⟩]
   ·
    rw [if_neg (fun x => e3 x.2), if_neg (fun x => e3 x.2)]
  ·
   rw [if_neg (fun x => e2 x.1)]
   by_cases e3 : i = k
   ·
    subst e3
    rw [if_neg]
    rintro ⟨_, h3⟩
    rcases h with h | h
    ·
     exact e h
    ·
     exact h3 h
   ·
    rw [if_neg (fun x => e3 (by omega))]
theorem clr_set (m : List (List UInt8)) (top col k : Nat) (h1 : k ≠ top) (h2 : gB (gR m k) col ≠ 0) :
  (clr m top col k).set k (muladd (gR m k) (prow m top col) (gB (gR m k) col)) = clr m top col (k + 1) := by
 apply List.ext_getElem (by simp [clr])
 intro i h3 h4
 rw [List.getElem_set]
 simp only [clr, List.getElem_map, List.getElem_range, clrow]
 by_cases e : k = i
 ·
  subst e
  rw [if_pos rfl, if_neg h1, if_pos ⟨by omega, h2⟩]
 ·
  rw [if_neg e]
  by_cases e1 : i = top
  ·
   rw [if_pos e1, if_pos e1]
  ·
   rw [if_neg e1, if_neg e1]
   by_cases e2 : i < k ∧ gB (gR m i) col ≠ 0
   ·
    rw [if_pos e2, if_pos ⟨by omega, e2.2⟩]
   ·
    rw [if_neg e2, if_neg (fun x => e2 ⟨by omega, x.2⟩)]
theorem prow_length (m : List (List UInt8)) (top col : Nat) : (prow m top col).length = (gR m top).length := by simp [prow]
theorem clrow_length (m : List (List UInt8)) (L top col k i : Nat) (hr : Rect m L) (ht : top < m.length) (hi : i < m.length) : (clrow m top col k i).length = L := by
 unfold clrow
 by_cases e : i = top
 ·
  rw [if_pos e, prow_length, hr top ht]
 ·
  rw [if_neg e]
  by_cases e2 : i < k ∧ gB (gR m i) col ≠ 0
  ·
   rw [if_pos e2, muladd_length _ _ _ (by rw [prow_length, hr i hi, hr top ht]), prow_length, hr top ht]
  ·
   rw [if_neg e2, hr i hi]
theorem clr_rect (m : List (List UInt8)) (L top col k : Nat) (hr : Rect m L) (ht : top < m.length) : Rect (clr m top col k) L := by
 intro i hi
 rw [clr_length] at hi
 rw [clr_get _ _ _ _ _ hi, clrow_length m L top col k i hr ht hi]

theorem cell_set_ne {w : World} {p q : Addr} {v x : Value} (hq : w.cell? q = some x) (hne : p ≠ q) : (w.setCell p v).cell? q = some x :=
 (World.cell?_setCell_other w p q v hne).trans hq
/-- Of the first n rows none has its bytes in block b. -/
def FarRows (cs : Array Value) (n b : Nat) : Prop := ∀ (i : Nat) (A : Option Addr) (k c : Nat), i < n → cs[i]? = some (.slice A k c) → ∀ g o, A = some ⟨g, o, none⟩ → g ≠ b
theorem FarRows.set_ {cs : Array Value} {n b : Nat} (h : FarRows cs n b) (i : Nat) {A : Option Addr} {k c : Nat} (hA : ∀ g o, A = some ⟨g, o, none⟩ → g ≠ b) : FarRows (cs.setIfInBounds i (.slice A k c)) n b := by
 intro j A' k' c' hjn hj g o e
 rw [Array.getElem?_setIfInBounds] at hj
 by_cases hij : i = j
 ·
  rw [if_pos hij] at hj
  split at hj
  ·
   injection hj with hj
   injection hj with h1 h2 h3
   subst h1
   exact hA g o e
  ·
   cases hj
 ·
  rw [if_neg hij] at hj
  exact h j A' k' c' hjn hj g o e
/-- The struct elimination in block ge, its rows in block gr. -/
def Elim (w : World) (ge gr n cap : Nat) (pv : Value) (pr : UInt8) (cs : Array Value) (m : List (List UInt8)) (F : List Nat) : Prop :=
 Blk w ge 213 #[.slice (some ⟨gr, 0, none⟩) n cap, pv, B pr] ∧ RowsBlk w gr 39 cs m ∧ m.length = n ∧ ge ≠ gr ∧ ge ∈ F ∧ ∀ b ∈ F, b < w.heap.size ∧ FarRows cs n b

theorem Elim.kept {w w' : World} {ge gr n cap : Nat} {pv : Value} {pr : UInt8} {cs : Array Value} {m : List (List UInt8)} {F : List Nat} (h : Elim w ge gr n cap pv pr cs m F) (hb : Below w.heap.size w w') : Elim w' ge gr n cap pv pr cs m F :=
 ⟨h.1.kept hb, h.2.1.kept hb, h.2.2.1, h.2.2.2.1, h.2.2.2.2.1, fun b hb' => ⟨Nat.lt_of_lt_of_le (h.2.2.2.2.2 b hb').1 hb.size, (h.2.2.2.2.2 b hb').2⟩⟩
theorem Elim.setRow {w : World} {ge gr n cap : Nat} {pv : Value} {pr : UInt8} {cs : Array Value} {m : List (List UInt8)} {F : List Nat} (h : Elim w ge gr n cap pv pr cs m F) {i : Nat} (hi : i < n) {A : Option Addr} {k c : Nat} {l : List UInt8} (hl : BS w A k c l) (hA : ∀ g o, A = some ⟨g, o, none⟩ → g ∉ F) :
  Elim (w.setCell ⟨gr, i, none⟩ (.slice A k c)) ge gr n cap pv pr (cs.setIfInBounds i (.slice A k c)) (m.set i l) F :=
 ⟨h.1.far h.2.2.2.1 _, h.2.1.set_ (by rw [h.2.2.1]; exact hi) hl, by simp [h.2.2.1], h.2.2.2.1, h.2.2.2.2.1, fun b hb => ⟨by rw [World.size_setCell]; exact (h.2.2.2.2.2 b hb).1, (h.2.2.2.2.2 b hb).2.set_ i (fun g o e e' => hA g o e (e' ▸ hb))⟩⟩
theorem Elim.rowsCell {w : World} {ge gr n cap : Nat} {pv : Value} {pr : UInt8} {cs : Array Value} {m : List (List UInt8)} {F : List Nat} (h : Elim w ge gr n cap pv pr cs m F) : w.cell? ⟨ge, 0, none⟩ = some (.slice (some ⟨gr, 0, none⟩) n cap) := by
 rw [h.1.cell]; rfl
theorem Elim.pivCell {w : World} {ge gr n cap : Nat} {pv : Value} {pr : UInt8} {cs : Array Value} {m : List (List UInt8)} {F : List Nat} (h : Elim w ge gr n cap pv pr cs m F) : w.cell? ⟨ge, 1, none⟩ = some pv := by
 rw [h.1.cell]; rfl
theorem Elim.prodCell {w : World} {ge gr n cap : Nat} {pv : Value} {pr : UInt8} {cs : Array Value} {m : List (List UInt8)} {F : List Nat} (h : Elim w ge gr n cap pv pr cs m F) : w.cell? ⟨ge, 2, none⟩ = some (B pr) := by
 rw [h.1.cell]; rfl
theorem Elim.setProd {w : World} {ge gr n cap : Nat} {pv : Value} {pr : UInt8} {cs : Array Value} {m : List (List UInt8)} {F : List Nat} (h : Elim w ge gr n cap pv pr cs m F) (x : UInt8) :
  Elim (w.setCell ⟨ge, 2, none⟩ (B x)) ge gr n cap pv x cs m F := by
 refine ⟨h.1.set_ 2 _, ⟨h.2.1.1.far (Ne.symm h.2.2.2.1) _, h.2.1.2.1, fun i hi => ?_⟩, h.2.2.1, h.2.2.2.1, h.2.2.2.2.1, fun b hb => ⟨by rw [World.size_setCell]; exact (h.2.2.2.2.2 b hb).1, (h.2.2.2.2.2 b hb).2⟩⟩
 obtain ⟨A, k, c, e, hr⟩ := h.2.1.2.2 i hi
 exact ⟨A, k, c, e, hr.far (p := ⟨ge, 2, none⟩) (fun g o e' => (h.2.2.2.2.2 ge h.2.2.2.2.1).2 i A k c (by rw [← h.2.2.1]; exact hi) e g o e') _⟩
theorem Elim.setPiv {w : World} {ge gr n cap : Nat} {A : Option Addr} {np cp : Nat} {pr : UInt8} {cs : Array Value} {m : List (List UInt8)} {F : List Nat} (h : Elim w ge gr n cap (.slice A np cp) pr cs m F) (v : Value) :
  Elim (w.setCell ⟨ge, 1, none⟩ v) ge gr n cap v pr cs m F :=
 ⟨h.1.set_ 1 _, h.2.1.far (p := ⟨ge, 1, none⟩) (Ne.symm h.2.2.2.1) h.pivCell (fun b e => by cases e) _, h.2.2.1, h.2.2.2.1, h.2.2.2.2.1, fun b hb => ⟨by rw [World.size_setCell]; exact (h.2.2.2.2.2 b hb).1, (h.2.2.2.2.2 b hb).2⟩⟩
theorem Elim.row {w : World} {ge gr n cap : Nat} {pv : Value} {pr : UInt8} {cs : Array Value} {m : List (List UInt8)} {F : List Nat} (h : Elim w ge gr n cap pv pr cs m F) {L : Nat} (hL : Rect m L) {i : Nat} (hi : i < n) :
  ∃ A c, w.cell? ⟨gr, i, none⟩ = some (.slice A L c) ∧ BS w A L c (gR m i) := by
 obtain ⟨A, k, c, h1, h2⟩ := h.2.1.cell (i := i) (by rw [h.2.2.1]; exact hi)
 obtain rfl : k = L := by rw [← h2.1, hL i (by rw [h.2.2.1]; exact hi)]
 exact ⟨A, c, h1, h2⟩

def ClearPost (ge gr n cap : Nat) (pv : Value) (pr : UInt8) (m : List (List UInt8)) (F : List Nat) (w w' : World) : Prop :=
 ∃ cs, Elim w' ge gr n cap pv pr cs m F ∧ Kp (· = gr) w w'

set_option maxHeartbeats 1000000 in
theorem clear_any (ge gr n cap : Nat) (pv : Value) (pr : UInt8) (cs : Array Value) (m : List (List UInt8)) (F : List Nat) (L top col : Nat) (w : World) (h : Elim w ge gr n cap pv pr cs m F) (hL : Rect m L) (hLl : L ≤ 140737488355328) (hn : n ≤ 140737488355328)
  (ht : top < n) (hc : col < L) (hnz : gB (gR m top) col ≠ 0) :
  Calls Tryz.prog 165 #[.pointer (some ⟨ge, 0, none⟩), .int .i64 (top : Int), .int .i64 (col : Int)] w fun e w' => e = .returned (.tuple #[]) ∧ ClearPost ge gr n cap pv pr (clr m top col n) F w w' := by
 obtain ⟨A1, c1, hc1, hr1⟩ := h.row hL ht
 obtain ⟨g1, o1, rfl, hb1⟩ := hr1.at_ (Below.refl _ _) hc
 have ce := h.rowsCell
 have f1 := h.2.1.1.frozen top
 have HR1 := Lib.hid hr1
 have HE := Lib.hid h
 have hz' : (gB (gR m top) col == 0) = false := by simp [hnz]
 clear hr1 h hnz
 go_enter Tryz.func165, Tryz.ntmps165
 go_wp2_with (go_at_call 133; refine (inv_any _ hz' _).mono ?_; rintro e w' ⟨rfl, rfl⟩)
 refine Text.wp_region_text (fun w' => w'.cell? ⟨ge, 0, none⟩ = some (.slice (some ⟨gr, 0, none⟩) n cap)) [(0, 4), (1, 4), (2, 4), (4, 4), (5, 4), (6, 4), (7, 4), (9, 4), (12, 4), (3, 0), (8, 1), (10, 4), (11, 1), (13, 2), (14, 4), (15, 2)] (by kernel_rfl) (by kernel_rfl) (fun _ _ _ _ _ h => h) (ce) ?_
 iterate 9 (refine Text.purek rfl rfl (fun K hK => ⟨_, fun w' => by go_simp <;> rfl, ?_⟩); go_simp; refine hK _ ?_; clear hK K)
 (refine Text.heldk rfl rfl (fun K hK => ⟨_, fun w' hw' => by go_simp <;> rfl, ?_⟩); go_simp; refine hK _ ?_; clear hK K)
 (refine Text.readk rfl rfl (fun K hK => ⟨_, by go_simp <;> rfl, ?_⟩); go_simp; refine hK _ ?_; clear hK K)
 (refine Text.purek rfl rfl (fun K hK => ⟨_, fun w' => by go_simp <;> rfl, ?_⟩); go_simp; refine hK _ ?_; clear hK K)
 (refine Text.readk rfl rfl (fun K hK => ⟨_, by go_simp <;> rfl, ?_⟩); go_simp; refine hK _ ?_; clear hK K)
 refine Text.eff rfl rfl (fun K hK => ?_)
 go_simp
 refine (scale_any _ _ _ _ _ _ HR1.out.drew).mono ?_
 rintro e w2 ⟨v, rfl, g2, nn, rfl, hnn, hg2, hblk2, hbe2⟩
 obtain rfl : nn = L := by rw [← hnn, List.length_map, HR1.out.1]
 have hc2 := cell_kept (w := w.drew) hbe2 hc1
 have hf2 := (HE.out.2.1.1.drew.kept hbe2).frozen top
 have hce2 := cell_kept (w := w.drew) hbe2 ce
 have HN := Lib.hid hnn
 have HB2 := Lib.hid hblk2
 refine hK _ _ hce2 ?_
 clear hK K hnn hblk2
 (refine Text.purek rfl rfl (fun K hK => ⟨_, fun w' => by go_simp <;> rfl, ?_⟩); go_simp; refine hK _ ?_; clear hK K)
 refine Text.eff rfl rfl (fun K hK => ?_)
 go_simp
 obtain ⟨w3, hw3⟩ : ∃ w3, w3 = w2.setCell ⟨gr, top, none⟩ (.slice (some ⟨g2, 0, none⟩) nn nn) := ⟨_, rfl⟩
 have hI : ClearPost ge gr n cap pv pr (clr m top col 0) F w w3 := by
  have h3 := (HE.out.kept (w' := w2) (below_ofDrew hbe2)).setRow ht (BS.of_blk (l := prow m top col) HB2.out HN.out hLl) (fun g o e hF => by injection e with e; injection e with e; have := (HE.out.2.2.2.2.2 g hF).1; have : w.heap.size ≤ g2 := hg2; omega)
  rw [clr_zero _ _ _ (by rw [HE.out.2.2.1]; exact ht), ← hw3] at h3
  have h4 : Kp (· = gr) w w3 := by rw [hw3]; exact Kp.set (S := (· = gr)) (p := ⟨gr, top, none⟩) (Kp.of_below (below_ofDrew hbe2)) (.inl rfl) _
  exact ⟨_, h3, h4⟩
 rw [← hw3]
 have hce3 := hI.choose_spec.1.rowsCell
 refine hK _ _ hce3 ?_
 clear hK K hw3 hc2 hf2 hce2 hbe2 hb1 hc1 ce f1
 refine Text.done ?_
 go_wp2
 go_loopw [44] (fun i wr => ∃ k : Nat, k ≤ n ∧ i = .int .i64 (k : Int) ∧ ClearPost ge gr n cap pv pr (clr m top col k) F w wr) (fun i _ => n - (intOf i).toNat)
 case atStart => exact ⟨0, by omega, rfl, hI⟩
 case round =>
  obtain ⟨k, hk, rfl, cs', h1, hkp⟩ := hrel
  have hm0 := HE.out.2.2.1
  have hRk : Rect (clr m top col k) nn := clr_rect m nn top col k hL (by rw [hm0]; exact ht)
  have HM := Lib.hid hm0
  clear hm0 hce3 hI
  by_cases hlt : k < n
  ·
   obtain ⟨A2, c2, hcr, hbr⟩ := h1.row hRk hlt
   obtain ⟨g3, o3, rfl, hcb⟩ := hbr.at_ (Below.refl _ _) hc
   rw [clr_get _ _ _ _ _ (by rw [HM.out]; exact hlt)] at hcb hbr
   by_cases hkt : k = top
   ·
    have hd : ((k : Int) != (top : Int)) = false := by simp [hkt]
    have HR : Hid (ClearPost ge gr n cap pv pr (clr m top col (k + 1)) F w wr) := Lib.hid ⟨cs', by rw [← clr_skip m top col k (.inl hkt)]; exact h1, hkp⟩
    have HKT := Lib.hid hkt
    clear h1 hkp hbr hcb hkt
    go_wp2
    go_roundw
    case rel => exact ⟨k + 1, by omega, by go_num, HR.out⟩
    case measure => simp [intOf]; omega
   ·
    have hd : ((k : Int) != (top : Int)) = true := by simp; omega
    have erow : clrow m top col k k = gR m k := by
     unfold clrow; rw [if_neg hkt, if_neg (fun x => absurd x.1 (by omega))]
    rw [erow] at hcb hbr
    clear erow
    by_cases hz : gB (gR m k) col = 0
    ·
     have hz2 : (gB (gR m k) col != 0) = false := by simp [hz]
     have HR : Hid (ClearPost ge gr n cap pv pr (clr m top col (k + 1)) F w wr) := Lib.hid ⟨cs', by rw [← clr_skip m top col k (.inr hz)]; exact h1, hkp⟩
     clear h1 hkp hbr hz
     go_wp2
     go_roundw
     case rel => exact ⟨k + 1, by omega, by go_num, HR.out⟩
     case measure => simp [intOf]; omega
    ·
     have hz2 : (gB (gR m k) col != 0) = true := by simp [hz]
     obtain ⟨A4, c4, hct, hbt⟩ := h1.row hRk ht
     rw [clr_get _ _ _ _ _ (by rw [HM.out]; exact ht)] at hbt
     have erow : clrow m top col k top = prow m top col := by unfold clrow; rw [if_pos rfl]
     rw [erow] at hbt
     have hce := h1.rowsCell
     have HS := Lib.hid (clr_set m top col k hkt hz)
     have H1 := Lib.hid h1
     have HKP := Lib.hid hkp
     have HBR := Lib.hid hbr
     have HBT := Lib.hid hbt
     have HKT := Lib.hid hkt
     clear h1 hkp hbr hbt hz erow hkt
     go_wp2
     refine Text.wp_region_text (fun w' => w'.cell? ⟨ge, 0, none⟩ = some (.slice (some ⟨gr, 0, none⟩) n cap)) [(0, 4), (1, 4), (2, 4), (4, 4), (5, 4), (6, 4), (7, 4), (8, 4), (10, 4), (13, 4), (14, 4), (15, 4), (3, 0), (9, 1), (11, 4), (12, 1), (16, 1), (17, 2), (18, 4), (19, 4), (20, 4), (21, 4), (22, 2)] (by kernel_rfl) (by kernel_rfl) (fun _ _ _ _ _ h => h) (hce) ?_
     iterate 12 (refine Text.purek rfl rfl (fun K hK => ⟨_, fun w' => by go_simp <;> rfl, ?_⟩); go_simp; refine hK _ ?_; clear hK K)
     (refine Text.heldk rfl rfl (fun K hK => ⟨_, fun w' hw' => by go_simp <;> rfl, ?_⟩); go_simp; refine hK _ ?_; clear hK K)
     (refine Text.readk rfl rfl (fun K hK => ⟨_, by go_simp <;> rfl, ?_⟩); go_simp; refine hK _ ?_; clear hK K)
     (refine Text.purek rfl rfl (fun K hK => ⟨_, fun w' => by go_simp <;> rfl, ?_⟩); go_simp; refine hK _ ?_; clear hK K)
     iterate 2 (refine Text.readk rfl rfl (fun K hK => ⟨_, by go_simp <;> rfl, ?_⟩); go_simp; refine hK _ ?_; clear hK K)
     refine Text.eff rfl rfl (fun K hK => ?_)
     go_simp
     refine (muladd_any _ _ _ _ _ _ _ _ _ HBR.out.drew HBT.out.drew).mono ?_
     rintro e w2 ⟨v, rfl, g5, nn5, rfl, hnn5, hg5, hblk5, hbe5⟩
     obtain rfl : nn5 = nn := by rw [← hnn5, muladd_length _ _ _ (by rw [HBR.out.1, HBT.out.1]), HBT.out.1]
     have hc5 := cell_kept (w := wr.drew) hbe5 hcr
     have hf5 := (H1.out.2.1.1.drew.kept hbe5).frozen k
     have hce5 := cell_kept (w := wr.drew) hbe5 hce
     have HN5 := Lib.hid hnn5
     have HB5 := Lib.hid hblk5
     refine hK _ _ hce5 ?_
     clear hK K hnn5 hblk5
     iterate 4 (refine Text.purek rfl rfl (fun K hK => ⟨_, fun w' => by go_simp <;> rfl, ?_⟩); go_simp; refine hK _ ?_; clear hK K)
     refine Text.eff rfl rfl (fun K hK => ?_)
     go_simp
     obtain ⟨w6, hw6⟩ : ∃ w6, w6 = w2.setCell ⟨gr, k, none⟩ (.slice (some ⟨g5, 0, none⟩) nn5 nn5) := ⟨_, rfl⟩
     have HR : Hid (ClearPost ge gr n cap pv pr (clr m top col (k + 1)) F w w6) := by
      have h3 := (H1.out.kept (w' := w2) (below_ofDrew hbe5)).setRow hlt (BS.of_blk HB5.out HN5.out hLl) (fun g o e hF => by injection e with e; injection e with e; have := (H1.out.2.2.2.2.2 g hF).1; have : wr.heap.size ≤ g5 := hg5; omega)
      rw [HS.out, ← hw6] at h3
      have h4 : Kp (· = gr) w w6 := by rw [hw6]; exact Kp.set (S := (· = gr)) (p := ⟨gr, k, none⟩) (HKP.out.then (below_ofDrew hbe5)) (.inl rfl) _
      exact Lib.hid ⟨_, h3, h4⟩
     rw [← hw6]
     have hce6 := HR.out.choose_spec.1.rowsCell
     refine hK _ _ hce6 ?_
     clear hK K hw6 hce6
     refine Text.done ?_
     go_wp2
     go_roundw
     case rel => exact ⟨k + 1, by omega, by go_num, HR.out⟩
     case measure => simp [intOf]; omega
  ·
   obtain rfl : k = n := by omega
   have HR : Hid (ClearPost ge gr k cap pv pr (clr m top col k) F w wr) := Lib.hid ⟨cs', h1, hkp⟩
   clear h1 hkp
   go_wp2
   go_end0
   exact ⟨rfl, HR.out⟩
end Go.Proofs.YtfcakjpljjnjnaaGreatDoor
/- Contracts of package matrix: the search for a pivot, reduce. -/
namespace Go.Proofs.YtfcakjpljjnjnaaGreatDoor
open Go.RowKit Gf

attribute [local go_sem] Gf.xor_bits Gf.and_bits Gf.or_bits Gf.ne_zero_iff Gf.eq_zero_iff Gf.eq_one_iff Gf.beq_bytes Gf.bne_bytes Gf.bv_toNat

/-- The first row from top on that is not 0 in column col. -/
def pvF (m : List (List UInt8)) (top col : Nat) : Option Nat := (List.range m.length).find? (fun i => decide (top ≤ i) && (gB (gR m i) col != 0))
def pvI : Option Nat → Int
 | some k => (k : Int)
 | none => -1
theorem pvF_some {m : List (List UInt8)} {top col k : Nat} (h1 : top ≤ k) (h2 : k < m.length) (h3 : gB (gR m k) col ≠ 0) (h4 : ∀ j, top ≤ j → j < k → gB (gR m j) col = 0) : pvF m top col = some k := by
 unfold pvF
 rw [List.find?_range_eq_some]
 refine ⟨by simp [h1, h3], List.mem_range.2 h2, fun j hj => ?_⟩
 by_cases e : top ≤ j
 ·
  simp [h4 j e hj]
 ·
  simp [e]
theorem pvF_none {m : List (List UInt8)} {top col : Nat} (h4 : ∀ j, top ≤ j → j < m.length → gB (gR m j) col = 0) : pvF m top col = none := by
 unfold pvF
 rw [List.find?_eq_none]
 intro j hj
 have hj' := List.mem_range.1 hj
 by_cases e : top ≤ j
 ·
  simp [h4 j e hj']
 ·
  simp [e]
theorem pvF_spec {m : List (List UInt8)} {top col k : Nat} (h : pvF m top col = some k) : top ≤ k ∧ k < m.length ∧ gB (gR m k) col ≠ 0 := by
 unfold pvF at h
 rw [List.find?_range_eq_some] at h
 obtain ⟨h1, h2, _⟩ := h
 simp at h1
 exact ⟨h1.1, List.mem_range.1 h2, h1.2⟩

set_option maxHeartbeats 1000000 in
theorem e8find_any (gt gx gc ge gr n cap : Nat) (pv : Value) (pr : UInt8) (cs : Array Value) (m : List (List UInt8)) (F : List Nat) (L top col : Nat) (w : World) (h : Elim w ge gr n cap pv pr cs m F) (hL : Rect m L) (hn : n ≤ 140737488355328)
  (ht : top ≤ n) (hc : col < L) (ct : w.cell? ⟨gt, 0, none⟩ = some (.int .i64 (top : Int))) (cx : w.cell? ⟨gx, 0, none⟩ = some (.pointer (some ⟨ge, 0, none⟩))) (cc : w.cell? ⟨gc, 0, none⟩ = some (.int .i64 (col : Int))) :
  Calls Tryz.prog 164 #[.pointer (some ⟨gt, 0, none⟩), .pointer (some ⟨gx, 0, none⟩), .pointer (some ⟨gc, 0, none⟩)] w fun e w' => e = .returned (.int .i64 (pvI (pvF m top col))) ∧ ∃ q, w' = w.drewN q := by
 have ce := h.rowsCell
 have HE := Lib.hid h
 clear h
 go_enter Tryz.func164, Tryz.ntmps164
 go_wp2
 go_loopw [4] (fun i wr => ∃ k q : Nat, top ≤ k ∧ k ≤ n ∧ i = .int .i64 (k : Int) ∧ wr = w.drewN q ∧ Hid (∀ j, top ≤ j → j < k → gB (gR m j) col = 0)) (fun i _ => n - (intOf i).toNat)
 case atStart => exact ⟨top, 0, Nat.le_refl _, ht, rfl, rfl, Lib.hid (fun j h1 h2 => absurd h1 (by omega))⟩
 case round =>
  obtain ⟨k, q, hk1, hk, rfl, rfl, hz⟩ := hrel
  by_cases hlt : k < n
  ·
   obtain ⟨A1, c1, hc1, hr1⟩ := HE.out.row hL hlt
   obtain ⟨g1, o1, rfl, hb1⟩ := hr1.at_ (Below.refl _ _) hc
   clear hr1
   by_cases hnz : gB (gR m k) col = 0
   ·
    have hd : (gB (gR m k) col != 0) = false := by simp [hnz]
    have HR : Hid (∀ j, top ≤ j → j < k + 1 → gB (gR m j) col = 0) := Lib.hid (fun j h1 h2 => by
     by_cases e : j = k
     ·
      rw [e]; exact hnz
     ·
      exact hz.out j h1 (by omega))
    clear hnz
    go_wp2
    refine Text.wp_region_text (fun _ => True) [(4, 4), (0, 1), (1, 4), (2, 4), (3, 1), (5, 4), (6, 1), (7, 1), (8, 4), (9, 1), (10, 4)] (by kernel_rfl) (by kernel_rfl) (fun _ _ _ _ _ h => h) (trivial) ?_
    (refine Text.purek rfl rfl (fun K hK => ⟨_, fun w' => by go_simp <;> rfl, ?_⟩); go_simp; refine hK _ ?_; clear hK K)
    (refine Text.readk rfl rfl (fun K hK => ⟨_, by go_simp <;> rfl, ?_⟩); go_simp; refine hK _ ?_; clear hK K)
    iterate 2 (refine Text.purek rfl rfl (fun K hK => ⟨_, fun w' => by go_simp <;> rfl, ?_⟩); go_simp; refine hK _ ?_; clear hK K)
    (refine Text.readk rfl rfl (fun K hK => ⟨_, by go_simp <;> rfl, ?_⟩); go_simp; refine hK _ ?_; clear hK K)
    (refine Text.purek rfl rfl (fun K hK => ⟨_, fun w' => by go_simp <;> rfl, ?_⟩); go_simp; refine hK _ ?_; clear hK K)
    iterate 2 (refine Text.readk rfl rfl (fun K hK => ⟨_, by go_simp <;> rfl, ?_⟩); go_simp; refine hK _ ?_; clear hK K)
    (refine Text.purek rfl rfl (fun K hK => ⟨_, fun w' => by go_simp <;> rfl, ?_⟩); go_simp; refine hK _ ?_; clear hK K)
    (refine Text.readk rfl rfl (fun K hK => ⟨_, by go_simp <;> rfl, ?_⟩); go_simp; refine hK _ ?_; clear hK K)
    (refine Text.purek rfl rfl (fun K hK => ⟨_, fun w' => by go_simp <;> rfl, ?_⟩); go_simp; refine hK _ ?_; clear hK K)
    refine Text.done ?_
    go_wp2
    go_roundw
    case rel => exact ⟨k + 1, q + 1, by omega, by omega, by go_num, rfl, HR⟩
    case measure => simp [intOf]; omega
   ·
    have hd : (gB (gR m k) col != 0) = true := by simp [hnz]
    have HR : Hid (pvF m top col = some k) := Lib.hid (pvF_some hk1 (by rw [HE.out.2.2.1]; exact hlt) hnz hz.out)
    clear hnz
    go_wp2
    refine Text.wp_region_text (fun _ => True) [(4, 4), (0, 1), (1, 4), (2, 4), (3, 1), (5, 4), (6, 1), (7, 1), (8, 4), (9, 1), (10, 4)] (by kernel_rfl) (by kernel_rfl) (fun _ _ _ _ _ h => h) (trivial) ?_
    (refine Text.purek rfl rfl (fun K hK => ⟨_, fun w' => by go_simp <;> rfl, ?_⟩); go_simp; refine hK _ ?_; clear hK K)
    (refine Text.readk rfl rfl (fun K hK => ⟨_, by go_simp <;> rfl, ?_⟩); go_simp; refine hK _ ?_; clear hK K)
    iterate 2 (refine Text.purek rfl rfl (fun K hK => ⟨_, fun w' => by go_simp <;> rfl, ?_⟩); go_simp; refine hK _ ?_; clear hK K)
    (refine Text.readk rfl rfl (fun K hK => ⟨_, by go_simp <;> rfl, ?_⟩); go_simp; refine hK _ ?_; clear hK K)
    (refine Text.purek rfl rfl (fun K hK => ⟨_, fun w' => by go_simp <;> rfl, ?_⟩); go_simp; refine hK _ ?_; clear hK K)
    iterate 2 (refine Text.readk rfl rfl (fun K hK => ⟨_, by go_simp <;> rfl, ?_⟩); go_simp; refine hK _ ?_; clear hK K)
    (refine Text.purek rfl rfl (fun K hK => ⟨_, fun w' => by go_simp <;> rfl, ?_⟩); go_simp; refine hK _ ?_; clear hK K)
    (refine Text.readk rfl rfl (fun K hK => ⟨_, by go_simp <;> rfl, ?_⟩); go_simp; refine hK _ ?_; clear hK K)
    (refine Text.purek rfl rfl (fun K hK => ⟨_, fun w' => by go_simp <;> rfl, ?_⟩); go_simp; refine hK _ ?_; clear hK K)
    refine Text.done ?_
    go_wp2
    go_ret
    exact ⟨by rw [HR.out]; rfl, q + 1, rfl⟩
  ·
   have HR : Hid (pvF m top col = none) := Lib.hid (pvF_none (fun j h1 h2 => hz.out j h1 (by rw [HE.out.2.2.1] at h2; omega)))
   go_wp2
   go_ret
   exact ⟨by rw [HR.out]; rfl, q, rfl⟩
end Go.Proofs.YtfcakjpljjnjnaaGreatDoor
