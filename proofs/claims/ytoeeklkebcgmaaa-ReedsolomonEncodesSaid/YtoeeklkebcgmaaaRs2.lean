/- Contracts of package reedsolomon: of, inverse, factors, Row. -/
import Derived.Test.YtoeeklkebcgmaaaRs1
namespace Go.Proofs.Ytoeeklkebcgmaaa
open Go.RowKit Gf

attribute [local go_sem] Gf.xor_bits Gf.and_bits Gf.or_bits Gf.ne_zero_iff Gf.eq_zero_iff Gf.eq_one_iff Gf.beq_bytes Gf.bne_bytes Gf.bv_toNat

/-- Natural numbers as ints. -/
def ints (z : List Nat) : List Int := z.map Int.ofNat
def gN (z : List Nat) (k : Nat) : Nat := z.getD k 0
theorem ints_length (z : List Nat) : (ints z).length = z.length := by simp [ints]
theorem gN_eq {z : List Nat} {k : Nat} (h : k < z.length) : gN z k = z[k] := by simp [gN, List.getD, List.getElem?_eq_getElem h]
theorem gI_ints {z : List Nat} {k : Nat} (h : k < z.length) : gI (ints z) k = (gN z k : Int) := by
  rw [gI_eq (by rw [ints_length]; exact h), gN_eq h]; simp [ints]
theorem IS.nat {w w' : World} {A : Option Addr} {n c : Nat} {z : List Nat} (h : IS w A n c (ints z)) (hb : Below w.heap.size w w') {k : Nat} (hk : k < n) : ∃ g o, A = some ⟨g, o, none⟩ ∧ w'.cell? ⟨g, o + k, none⟩ = some (.int .i64 (gN z k : Int)) := by
  obtain ⟨g, o, e, hc⟩ := h.at_ hb hk
  have hl : k < z.length := by rw [← ints_length, h.1]; exact hk
  exact ⟨g, o, e, by rw [hc, gI_ints hl]⟩

/-- The coefficients of piece i. -/
def crw (d i : Nat) : List UInt8 := (List.range d).map (coef d i)
theorem crw_length (d i : Nat) : (crw d i).length = d := by simp [crw]
def ofpart (d : Nat) (z : List Nat) (k : Nat) : List (List UInt8) := (List.range z.length).map fun j => if j < k then crw d (gN z j) else []
def ofM (d : Nat) (z : List Nat) : List (List UInt8) := z.map (crw d)
theorem ofpart_length (d : Nat) (z : List Nat) (k : Nat) : (ofpart d z k).length = z.length := by simp [ofpart]
theorem ofpart_get (d : Nat) (z : List Nat) (k i : Nat) (h : i < z.length) : gR (ofpart d z k) i = if i < k then crw d (gN z i) else [] := by
  rw [gR_eq (by rw [ofpart_length]; exact h)]; simp [ofpart]
theorem ofpart_all (d : Nat) (z : List Nat) : ofpart d z z.length = ofM d z := by
  apply List.ext_getElem (by simp [ofpart, ofM])
  intro i h1 h2
  have : i < z.length := by simpa [ofpart] using h1
  simp [ofpart, ofM, this, gN_eq this]
theorem ofpart_set (d : Nat) (z : List Nat) (k : Nat) : (ofpart d z k).set k (crw d (gN z k)) = ofpart d z (k + 1) := by
  apply List.ext_getElem (by simp [ofpart])
  intro i h1 h2
  rw [List.getElem_set]
  simp only [ofpart, List.getElem_map, List.getElem_range]
  by_cases e : k = i
  · subst e; simp
  · rw [if_neg e]
    by_cases e2 : i < k
    · rw [if_pos e2, if_pos (by omega)]
    · rw [if_neg e2, if_neg (by omega)]
theorem ofM_length (d : Nat) (z : List Nat) : (ofM d z).length = z.length := by simp [ofM]
theorem ofM_get (d : Nat) (z : List Nat) (i : Nat) (h : i < z.length) : gR (ofM d z) i = crw d (gN z i) := by
  rw [gR_eq (by rw [ofM_length]; exact h), gN_eq h]; simp [ofM]
theorem ofM_rect (d : Nat) (z : List Nat) : Rect (ofM d z) d := fun i hi => by
  rw [ofM_length] at hi
  rw [ofM_get d z i hi, crw_length]

/-- A row of the table as bytes. -/
theorem tab_row {w : World} {g d i : Nat} (h : Blk w g 80 (tblA d 16 0)) (hd : d ≤ 8) (hi : i < 16) : BS w (some ⟨g, 1 + i * 8, none⟩) d 8 (crw d i) := by
  refine ⟨crw_length d i, hd, by unfold lim; omega, fun k hk => ⟨g, 1 + i * 8, rfl, ?_⟩⟩
  rw [h.cell, show 1 + i * 8 + k = i * 8 + k + 1 by omega, tblA_get _ _ _ _ (by omega)]
  have e : tcell d 16 0 (i * 8 + k) = gB (crw d i) k := by
    rw [gB_eq (by rw [crw_length]; exact hk)]
    unfold tcell
    rw [if_pos (by omega), show (i * 8 + k) / 8 = i by omega, show (i * 8 + k) % 8 = k by omega]
    simp [crw]
  rw [e]

def OfI (d : Nat) (z : List Nat) (k : Nat) (w wr : World) : Prop := ∃ cs, RowsBlk wr w.heap.size 22 cs (ofpart d z k) ∧ Below w.heap.size w wr

set_option maxHeartbeats 4000000 in
theorem of_any (gt d : Nat) (A : Option Addr) (n c : Nat) (z : List Nat) (w : World) (ht : Blk w gt 80 (tblA d 16 0)) (hd : d ≤ 8) (h : IS w A n c (ints z)) (hz : ∀ i, i < n → gN z i < 16) (hn : n ≤ 1000) :
    Calls Try.prog 34 #[.pointer (some ⟨gt, 0, none⟩), .slice A n c] w (Rets (NewM 22 (ofM d z)) w) := by
  have hmk := make_rows n (by omega)
  have hzl : z.length = n := by rw [← ints_length, h.1]
  have HZ := Lib.hid hzl
  clear hzl
  go_enter Try.func34, Try.ntmps34
  go_wp2
  clear hmk
  go_loopw [13] (fun i wr => ∃ k : Nat, k ≤ n ∧ i = .int .i64 (k : Int) ∧ OfI d z k w wr) (fun i _ => n - (intOf i).toNat)
  case atStart =>
    refine ⟨0, by omega, rfl, _, ⟨Blk.new _ _ _, by rw [ofpart_length, HZ.out]; simp, fun i hi => ?_⟩, (Below.refl _ _).alloc (Nat.le_refl _) _⟩
    rw [ofpart_length] at hi
    refine ⟨none, 0, 0, by rw [HZ.out] at hi; simp [hi], ?_⟩
    rw [ofpart_get _ _ _ _ hi, if_neg (by omega)]
    exact BS.nil
  case round =>
    obtain ⟨k, hk, rfl, cs', h1, hb⟩ := hrel
    by_cases hlt : k < n
    · obtain ⟨gi, oi, rfl, hci⟩ := h.nat hb hlt
      have ht1 := ht.kept hb
      have hz16 := hz k hlt
      have hz16' : (gN z k : Int) < 16 := by omega
      have hd0 : w.cell? ⟨gt, 0, none⟩ = some (.int .i64 (d : Int)) := by rw [ht.cell, tblA_zero]
      have cd := cell_kept hb hd0
      have hgt : gt < wr.heap.size := ht1.lt
      have HD := Lib.hid (tab_row ht1 hd hz16)
      obtain ⟨A0, n0, c0, hc0, _⟩ := h1.cell (i := k) (by rw [ofpart_length, HZ.out]; exact hlt)
      have HB := Lib.hid hb
      have H1 := Lib.hid h1
      have hd8 : (d : Int) ≤ 8 := by omega
      clear hb h1 ht1 hd0
      go_wp2
      refine Text.wp_region_text (fun w' => w'.cell? ⟨gt, 0, none⟩ = some (.int .i64 (d : Int))) [(0, 4), (1, 4), (3, 4), (4, 4), (5, 4), (6, 4), (7, 4), (8, 4), (9, 4), (10, 4), (11, 0), (12, 4), (2, 2), (13, 2), (14, 4), (15, 2)] (by kernel_rfl) (by kernel_rfl) (fun _ _ _ _ _ h => h) (cd) ?_
      iterate 10 (refine Text.purek rfl rfl (fun K hK => ⟨_, fun w' => by go_simp <;> rfl, ?_⟩); go_simp; refine hK _ ?_; clear hK K)
      (refine Text.heldk rfl rfl (fun K hK => ⟨_, fun w' hw' => by go_simp <;> rfl, ?_⟩); go_simp; refine hK _ ?_; clear hK K)
      (refine Text.purek rfl rfl (fun K hK => ⟨_, fun w' => by go_simp <;> rfl, ?_⟩); go_simp; refine hK _ ?_; clear hK K)
      refine Text.eff rfl rfl (fun K hK => ?_)
      go_simp
      obtain ⟨wA, hwA⟩ : ∃ wA, wA = (wr.alloc (.cells #[] 5)).drew := ⟨_, rfl⟩
      have HBA : Hid (Below wr.heap.size wr wA) := by rw [hwA]; exact Lib.hid ((Below.refl _ _).alloc (Nat.le_refl _) _).drew
      have HOA : Hid (wA.ownsRow wr.heap.size 5 1 (.slice (some ⟨wr.heap.size, 0, none⟩) 0 0) 0 (([] : List UInt8).map B)) := by
        rw [hwA]; exact Lib.hid (World.ownsRow_lit wr #[] 0 (Nat.le_refl _) (by simp [maxLen]) rfl)
      rw [← hwA]
      refine hK _ _ (cell_kept HBA.out cd) ?_
      clear hK K hwA
      refine Text.eff rfl rfl (fun K hK => ?_)
      refine wp_appB wA (.tmp 20) (.tmp 30) rfl wr.heap.size (.slice (some ⟨wr.heap.size, 0, none⟩) 0 0) 0 [] rfl HOA.out (some ⟨gt, 1 + gN z k * 8, none⟩) d 8 (crw d (gN z k)) rfl (HD.out.kept HBA.out) (by omega) HBA.out.size ?_
      intro v1 w3 hp1
      have hb3 : Below wr.heap.size wr w3 := HBA.out.grown hp1.2.1 HBA.out.size (by simp [Value.ownBlock])
      obtain ⟨A3, c3, rfl, hbs3⟩ := BS.of_own hp1.1 (by unfold lim; omega)
      rw [Nat.zero_add] at hbs3
      have hc3 := cell_kept hb3 hc0
      have hf3 := (H1.out.1.kept hb3).frozen k
      have cd3 := cell_kept hb3 cd
      have HB3 := Lib.hid hb3
      have HBS3 := Lib.hid hbs3
      clear hp1 hb3 hbs3
      go_simp
      refine hK _ _ cd3 ?_
      clear hK K
      (refine Text.purek rfl rfl (fun K hK => ⟨_, fun w' => by go_simp <;> rfl, ?_⟩); go_simp; refine hK _ ?_; clear hK K)
      refine Text.eff rfl rfl (fun K hK => ?_)
      go_simp
      have HR : Hid (OfI d z (k + 1) w (w3.setCell ⟨w.heap.size, k, none⟩ (.slice A3 d c3))) := by
        have h4 := (H1.out.kept HB3.out).set_ (i := k) (by rw [ofpart_length, HZ.out]; exact hlt) HBS3.out
        rw [List.nil_append, ofpart_set] at h4
        exact Lib.hid ⟨_, h4, (below_thenB HB.out HB.out.size HB3.out).setCell (Nat.le_refl _) _⟩
      have hgtw : gt ≠ w.heap.size := by have := ht.lt; omega
      refine hK _ _ (cell_set_ne cd3 (by simp <;> omega)) ?_
      clear hK K
      refine Text.done ?_
      go_wp2
      go_roundw
      case rel => exact ⟨k + 1, by omega, by go_num, HR.out⟩
      case measure => simp [intOf]; omega
    · obtain rfl : k = n := by omega
      have HR : Hid (NewM 22 (ofM d z) w (.slice (some ⟨w.heap.size, 0, none⟩) k k) wr) := by
        have h2 := h1
        rw [← HZ.out, ofpart_all] at h2
        exact Lib.hid ⟨w.heap.size, cs', k, rfl, by rw [ofM_length, HZ.out], Nat.le_refl _, h2, hb⟩
      clear h1 hb
      go_wp2
      go_ret
      exact ⟨_, rfl, HR.out⟩

/-- What pieces give the blocks: the inverse of their rows. -/
def invT (d : Nat) (z : List Nat) : List (List UInt8) := invM (ofM d (z.take d)) d
/-- The rows of these pieces have an inverse that elimination finds. -/
def Reg (d : Nat) (z : List Nat) : Prop := (elimI (ofM d (z.take d)) d).2 = d
theorem gN_take {z : List Nat} {d k : Nat} (h : k < d) : gN (z.take d) k = gN z k := by
  unfold gN; rw [List.getD_eq_getElem?_getD, List.getD_eq_getElem?_getD, List.getElem?_take, if_pos h]
theorem IS.take {w : World} {A : Option Addr} {n c d : Nat} {z : List Nat} (h : IS w A n c (ints z)) (hd : d ≤ n) : IS w A d c (ints (z.take d)) := by
  have hl : z.length = n := by rw [← ints_length, h.1]
  refine ⟨by rw [ints_length, List.length_take]; omega, by have := h.2.1; omega, by have := h.2.2.1; omega, fun k hk => ?_⟩
  obtain ⟨g, o, e, hc⟩ := h.2.2.2 k (by omega)
  refine ⟨g, o, e, ?_⟩
  rw [hc]
  show some (Value.int .i64 (gI (ints z) k)) = some (Value.int .i64 (gI (ints (z.take d)) k))
  rw [gI_ints (by omega), gI_ints (by rw [List.length_take]; omega), gN_take hk]

theorem NewM.ms {t : TypeId} {m : List (List UInt8)} {w w' : World} {v : Value} (h : NewM t m w v w') (hl : m.length * 24 ≤ lim) : ∃ g n, v = .slice (some ⟨g, 0, none⟩) n n ∧ m.length = n ∧ MS w' (some ⟨g, 0, none⟩) n n m ∧ Below w.heap.size w w' := by
  obtain ⟨g, cs, n, e, hn, _, hr, hb⟩ := h
  exact ⟨g, n, e, hn, hr.toMS hn (Nat.le_refl _) (by rw [← hn]; exact hl), hb⟩
theorem invM_length (m : List (List UInt8)) (n : Nat) : (invM m n).length = n := by simp [invM]

set_option maxHeartbeats 4000000 in
theorem inverse_t (gt d : Nat) (A : Option Addr) (n c : Nat) (z : List Nat) (w : World) (ht : Blk w gt 80 (tblA d 16 0)) (hd : d ≤ 8) (hd0 : 0 < d) (h : IS w A n c (ints z)) (hz : ∀ i, i < n → gN z i < 16) (hn : d ≤ n) (hreg : Reg d z) :
    Calls Try.prog 46 #[.pointer (some ⟨gt, 0, none⟩), .slice A n c] w (Rets (NewM 22 (invT d z)) w) := by
  have hcd : w.cell? ⟨gt, 0, none⟩ = some (.int .i64 (d : Int)) := by rw [ht.cell, tblA_zero]
  have hnc := h.2.1
  have h2 := h.take hn
  have hl := h.len_le
  obtain ⟨g, o, rfl, _⟩ := h.nat (Below.refl _ _) (show 0 < n by omega)
  have q1 : (d : Int) ≤ (c : Int) := by omega
  have HT := Lib.hid ht
  clear ht
  go_enter Try.func46, Try.ntmps46
  go_wp2_with fail
  refine (of_any gt d _ d c (z.take d) w HT.out hd h2 (fun i hi => by rw [gN_take hi]; exact hz i (by omega)) (by omega)).mono ?_
  rintro e w1 ⟨v, rfl, hv⟩
  obtain ⟨g1, n1, rfl, hn1, hms, hb1⟩ := hv.ms (by rw [ofM_length, List.length_take]; have : z.length = n := by rw [← ints_length, h.1]
                                                   unfold lim; omega)
  obtain rfl : n1 = d := by rw [← hn1, ofM_length, List.length_take]; have : z.length = n := by rw [← ints_length, h.1]
                            omega
  clear hv hn1
  go_wp2_with fail
  refine (inverse_any _ n1 n1 _ w1 hms (ofM_rect _ _) hd0 (by omega) hreg).mono ?_
  rintro e w2 ⟨v2, rfl, g2, cs2, n2, rfl, hn2, hg2, hr2, hb2⟩
  have HR : Hid (NewM 22 (invT n1 z) w (.slice (some ⟨g2, 0, none⟩) n2 n2) w2) := Lib.hid ⟨g2, cs2, n2, rfl, hn2, Nat.le_trans hb1.size hg2, hr2, below_then hb1 hb2⟩
  clear hn2 hr2 hb1 hb2
  go_wp2
  go_ret
  exact ⟨_, rfl, HR.out⟩
end Go.Proofs.Ytoeeklkebcgmaaa
