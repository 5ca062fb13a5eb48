/- Several texts in one: So, Co4, Fi0, Aw1, Fi1, Aw2. -/
import Derived.Test.YtakedococfklgaaB2
import Derived.Test.YtakedococfklgaaShelf
import Derived.Sort.OwnSortedInts
import Derived.Test.YtakedococfklgaaB3
import Derived.Test.YtakedococfklgaaB8
/- slices.Sort of a row of ints that the call made. -/
namespace Go.Proofs.Ytakedococfklgaa
open Go.RowKit Gf Go.Sort
/-- The sorted list. -/
def isort (z : List Int) : List Int := z.mergeSort fun x y => decide (x ≤ y)
theorem isort_length (z : List Int) : (isort z).length = z.length := by simp [isort]

def SortRet (base : Nat) (v : Value) (n : Nat) (z : List Int) (w : World) (e : Ending) (w' : World) : Prop :=
  e = .returned (.tuple #[]) ∧ w'.ownsRow base 3 1 v n ((isort z).map (Value.int .i64)) ∧ w.grownBy w' v.ownBlock

theorem sort_own (base : Nat) (v : Value) (n : Nat) (z : List Int) (w : World) (h : w.ownsRow base 3 1 v n (z.map (Value.int .i64))) (hn : n < 4611686018427387904) :
    Calls Try.prog 48 #[v] w (SortRet base v n z w) := by
  have hl := h.1
  simp only [List.length_map, Nat.mul_one] at hl
  rcases h.2 with ⟨rfl, h0⟩ | ⟨g, cap, cur, rfl, hbase, hb, h1, h2, h3, h4⟩
  · refine (Try.slices_Sort_int_none none 0 w).mono ?_
    rintro e w' ⟨rfl, rfl⟩
    have hz : z = [] := List.length_eq_zero_iff.1 (by omega)
    subst hz
    refine ⟨rfl, ?_, ?_⟩
    · simpa [isort] using h
    · exact ⟨rfl, rfl, rfl, Nat.le_refl _, fun _ _ _ => rfl⟩
  · subst hl
    refine (Try.slices_Sort_int g 0 cap z w (holds_of_blockI hb (by simpa using h4)) (Array.getElem?_eq_some_iff.1 hb).1 hn).mono ?_
    rintro e w' ⟨rfl, nn, os, rfl⟩
    exact ⟨rfl, ownsRow_sortedI (isort_length z) hbase hb h1 h2 h3, grownBy_sortedI _⟩
end Go.Proofs.Ytakedococfklgaa
/- shamir.Wrong, first part: words for the column that is filled; the contract. -/
namespace Go.Proofs.Ytakedococfklgaa
open Go.RowKit Gf

attribute [local go_sem] Gf.bv_toNat Gf.bv_wrap

theorem own_form {w : World} {base : Nat} {e : TypeId} {v : Value} {n : Nat} {xs : List Value} (h0 : 0 < n) (h : w.ownsRow base e 1 v n xs) : ∃ m g cap, m = n ∧ v = .slice (some ⟨g, 0, none⟩) m cap := by
  rcases h.2 with ⟨_, h1⟩ | ⟨g, cap, cur, rfl, _⟩
  · omega
  · exact ⟨n, g, cap, rfl, rfl⟩

theorem ownsRow_mono {w : World} {base b : Nat} {e : TypeId} {s : Nat} {v : Value} {n : Nat} {xs : List Value} (h : w.ownsRow base e s v n xs) (hb : b ≤ base) : w.ownsRow b e s v n xs := by
  obtain ⟨h3, h4⟩ := h
  refine ⟨h3, ?_⟩
  rcases h4 with h4 | ⟨g, cap, cur, e, hg, h6⟩
  · exact .inl h4
  · exact .inr ⟨g, cap, cur, e, Nat.le_trans hb hg, h6⟩
/-- The column's bytes. -/
def coX (l : List (Int × List UInt8)) : List UInt8 := tab l.length (gX l)
def coY (l : List (Int × List UInt8)) (b : Nat) : List UInt8 := tab l.length (fun i => gB (gS l i).2 b)
/-- The column so far: its struct's block gc, its two rows. -/
structure Fill (wo : World) (gc t : Nat) (a b : List UInt8) (w : World) : Prop where
  ex : ∃ A1 n1 c1 A2 n2 c2, Blk w gc 81 #[.slice A1 n1 c1, .slice A2 n2 c2, .int .i64 (t : Int)] ∧ R2 wo.heap.size w (.slice A1 n1 c1) (.slice A2 n2 c2) a b
  kp : Kp (· = gc) wo w
theorem fill_end {wo w : World} {gc : Nat} {v1 v2 u1 u2 u3 : Value} {a b : List UInt8} (h : R2 wo.heap.size w v1 v2 a b) (hk : Blk w gc 81 #[u1, u2, u3]) (ho : Kp (· = gc) wo w) (hg : gc < wo.heap.size) :
    R2 wo.heap.size ((w.setCell ⟨gc, 0, none⟩ v1).setCell ⟨gc, 1, none⟩ v2) v1 v2 a b ∧ Blk ((w.setCell ⟨gc, 0, none⟩ v1).setCell ⟨gc, 1, none⟩ v2) gc 81 #[v1, v2, u3] ∧ Kp (· = gc) wo ((w.setCell ⟨gc, 0, none⟩ v1).setCell ⟨gc, 1, none⟩ v2) := by
  have hK : Kp (· = gc) w ((w.setCell ⟨gc, 0, none⟩ v1).setCell ⟨gc, 1, none⟩ v2) := Kp.set (S := (· = gc)) (Kp.set (S := (· = gc)) (Kp.refl _ _) (.inl rfl) _) (.inl rfl) _
  refine ⟨⟨Kp.own hK h.o1 (fun g hg' e => ?_), Kp.own hK h.o2 (fun g hg' e => ?_), h.d⟩, ?_, ho.trans hK⟩
  · have := (h.o1.lt g hg').1; omega
  · have := (h.o2.lt g hg').1; omega
  · exact (hk.set_ 0 v1).set_ 1 v2
theorem fill_next {wo w : World} {gc t k g1 n1 c1 g2 n2 c2 : Nat} {x y : UInt8} {cx cy : List UInt8} (h : R2 wo.heap.size w (.slice (some ⟨g1, 0, none⟩) n1 c1) (.slice (some ⟨g2, 0, none⟩) n2 c2) (cx.take k ++ [x]) (cy.take k ++ [y]) ∧ Blk w gc 81 #[.slice (some ⟨g1, 0, none⟩) n1 c1, .slice (some ⟨g2, 0, none⟩) n2 c2, .int .i64 (t : Int)] ∧ Kp (· = gc) wo w)
    (hx : cx.take k ++ [x] = cx.take (k + 1)) (hy : cy.take k ++ [y] = cy.take (k + 1)) : Fill wo gc t (cx.take (k + 1)) (cy.take (k + 1)) w := by
  obtain ⟨h1, h2, h3⟩ := h
  rw [hx, hy] at h1
  exact ⟨⟨_, _, _, _, _, _, h2, h1⟩, h3⟩

/-- The marks after b bytes; none if one of them cannot be marked. -/
def wrK (l : List (Int × List UInt8)) (t most : Nat) : Nat → Option (List Bool)
  | 0 => some (List.replicate l.length false)
  | b + 1 => match wrK l t most b with
    | none => none
    | some wl => if mkB (coX l) (coY l b) wl t most then some (mkK (coX l) (coY l b) (mkP (coX l) (coY l b) wl t most) wl l.length) else none
theorem wrK_len (l : List (Int × List UInt8)) (t most : Nat) : ∀ b wl, wrK l t most b = some wl → wl.length = l.length
  | 0, wl, h => by rw [wrK] at h; injection h with h; subst h; simp
  | b + 1, wl, h => by
    rw [wrK] at h
    cases e : wrK l t most b with
    | none => rw [e] at h; cases h
    | some wl' =>
      rw [e] at h
      simp only at h
      split at h
      · injection h with h; subst h; rw [mkK_length]; exact wrK_len l t most b wl' e
      · cases h
theorem wrK_none (l : List (Int × List UInt8)) (t most b : Nat) (h : wrK l t most b = none) : ∀ d, wrK l t most (b + d) = none
  | 0 => h
  | d + 1 => by rw [← Nat.add_assoc, wrK, wrK_none l t most b h d]
/-- The X of marked shares among the first k. -/
def reK (l : List (Int × List UInt8)) (wl : List Bool) : Nat → List Int
  | 0 => []
  | k + 1 => if gO wl k then reK l wl k ++ [(gS l k).1] else reK l wl k
theorem reK_len (l : List (Int × List UInt8)) (wl : List Bool) : ∀ k, (reK l wl k).length ≤ k
  | 0 => Nat.le_refl _
  | k + 1 => by have := reK_len l wl k; unfold reK; split <;> (try simp) <;> omega
/-- What Wrong finds. -/
def wrF (l : List (Int × List UInt8)) (t : Nat) : Option (List Int) :=
  match wrK l t ((l.length - t) / 2) (gS l 0).2.length with
  | none => none
  | some wl => if (l.length - t) / 2 < (reK l wl l.length).length then none else some (isort (reK l wl l.length))

theorem coX_dst {l : List (Int × List UInt8)} (hX : ∀ k, k < l.length → 1 ≤ (gS l k).1 ∧ (gS l k).1 ≤ 255) (hd : ∀ i j, j < i → i < l.length → (gS l j).1 ≠ (gS l i).1) : Py.Dst (coX l) := by
  intro i j hij hj
  rw [coX, tab_length] at hj
  rw [coX, gB_tab _ (by omega), gB_tab _ hj]
  intro e
  have h1 := hX i (by omega)
  have h2 := hX j hj
  have e1 := gX_eq (l := l) (k := i) (by omega) (by omega)
  have e2 := gX_eq (l := l) (k := j) (by omega) (by omega)
  exact hd j i hij hj (by rw [e1, e2, e])
theorem make_bools (n : Nat) (h : n ≤ 140737488355328) (w : World) :
    (Instr.makeSlice 79 (.int .i64 (n : Int)) (.int .i64 (n : Int))).run Try.prog w = .ok (.slice (some ⟨w.heap.size, 0, none⟩) n n) (w.alloc (.cells (boR (List.replicate n false)) 4)) := by
  obtain ⟨i, hi, hz, hs, hb⟩ := info_parts (show (Try.prog.info? 4).map (fun i => (i.zero, i.size, i.bytes)) = some (some (.bool false), 1, 1) by kernel_rfl)
  have hr := run_make (P := Try.prog) w 79 4 i _ Try.underlying79 hi hz .i64 .i64 n n (by omega) (by omega) (by rw [hb]; omega) (by omega)
  rw [hr, hs]
  simp only [Int.toNat_natCast, Value.cells, Nat.mul_one]
  rw [made_one]
  simp [boR]

/-- What Wrong returns. -/
def WrRet (z : Option (List Int)) (w : World) (e : Ending) (w' : World) : Prop :=
  Below w.heap.size w w' ∧ match z with
    | none => e = .returned (.tuple #[.slice none 0 0, .int .i64 9])
    | some z => ∃ v, e = .returned (.tuple #[v, .int .i64 0]) ∧ w'.ownsRow w.heap.size 3 1 v z.length (z.map (Value.int .i64))

set_option maxRecDepth 100000 in
set_option maxHeartbeats 4000000 in
theorem wrong_ok (A : Option Addr) (n c t : Nat) (l : List (Int × List UInt8)) (w : World) (h : SS w A n c l) (hs : shB l = true) (ht1 : 1 ≤ t) (ht2 : t ≤ 16) (htn : t ≤ n) :
    Calls Try.prog 19 #[.slice A n c, .int .i64 (t : Int)] w (WrRet (wrF l t) w) := by
  obtain ⟨sp1, sp2, sp3, sp4, sp5⟩ := shB_spec hs
  have HL := Lib.hid h.1
  have hn := h.len_le
  have hn64 : n ≤ 64 := by rw [← h.1]; exact sp1
  have H := Lib.hid h
  have HQ := Lib.hid sp2
  have HXR : Hid (∀ k, k < n → (gS l k).1 = bv (gX l k)) := Lib.hid (fun k hk => by have := sp4 k (by rw [h.1]; exact hk); exact gX_eq (by omega) (by omega))
  have HDS : Hid (Py.Dst (coX l)) := Lib.hid (coX_dst sp4 sp5)
  obtain ⟨L, hL⟩ : ∃ L, L = (gS l 0).2.length := ⟨_, rfl⟩
  rw [← hL] at HQ
  have HLE : Hid (L = (gS l 0).2.length) := Lib.hid hL
  have HS := Lib.hid hs
  obtain ⟨most, hmost⟩ : ∃ m, m = (n - t) / 2 := ⟨_, rfl⟩
  have HMO := Lib.hid hmost
  have sm : ((n : Int) - (t : Int)) / 2 = (most : Int) := by omega
  have hv : vT (t : Int) = true := vT_iff.2 ⟨by omega, by omega⟩
  have q0 : decide ((n : Int) < (t : Int)) = false := by simp; omega
  have q0' : decide (n < t) = false := by simp; omega
  clear h sp1 sp2 sp3 sp4 sp5 hs hL hmost
  have hmk := make_bools n (by omega)
  go_enter Try.func19, Try.ntmps19
  go_wp2_with fail
  refine (validShares_any _ _ _ _ _ H.out).mono ?_
  rintro e w1 ⟨rfl, hb1⟩
  have HB1 := Lib.hid hb1
  have H1 := Lib.hid (H.out.kept hb1)
  clear hb1
  rw [HS.out]
  go_wp2_with fail
  refine (validT_any _ _).mono ?_
  rintro e w' ⟨rfl, rfl⟩
  rw [hv]
  have hbA : Below w1.heap.size w1 (w1.alloc (.cells (boR (List.replicate n false)) 4)) := (Below.refl _ _).alloc (Nat.le_refl _) _
  have HBA := Lib.hid (below_then HB1.out hbA)
  have H2 := Lib.hid (H1.out.kept hbA)
  obtain ⟨g, o, A0, n0, c0, rfl, z1, z2, z3⟩ := H2.out.at_ (Below.refl _ _) (show 0 < n by omega)
  rw [Nat.zero_mul, Nat.add_zero] at z2
  obtain rfl : n0 = L := by rw [← z3.1]; exact HLE.out.symm
  have hL47 := z3.len_le
  clear hbA z1 z3
  go_wp2_with fail
  clear hmk z2 q0 q0' hv
  obtain ⟨gw, hgw⟩ : ∃ g, g = w1.heap.size := ⟨_, rfl⟩
  have HW0 : Hid (Blk (w1.alloc (.cells (boR (List.replicate n false)) 4)) gw 4 (boR (List.replicate l.length false))) := Lib.hid (by rw [hgw, HL.out]; exact Blk.new _ _ _)
  obtain ⟨w2, hw2⟩ : ∃ w2, w2 = w1.alloc (.cells (boR (List.replicate n false)) 4) := ⟨_, rfl⟩
  have hgb : w.heap.size ≤ gw := by rw [hgw]; exact HB1.out.size
  have hg2 : gw < w2.heap.size := by rw [hw2, hgw]; simp
  rw [← hw2, ← hgw]
  simp only [sm]
  rw [← hw2] at HBA HW0
  clear H1 H2 HB1 hw2 hgw sm
  have HWK0 : Hid (wrK l t most 0 = some (List.replicate l.length false)) := Lib.hid rfl
  go_loopw [40] (fun i wr => ∃ (b : Nat) (wl : List Bool), b ≤ n0 ∧ i = .int .i64 (b : Int) ∧ Hid (wrK l t most b = some wl) ∧ Hid (Blk wr gw 4 (boR wl)) ∧ Hid (Below w.heap.size w wr)) (fun i _ => n0 - (intOf i).toNat)
  case atStart => exact ⟨0, _, by omega, rfl, HWK0, HW0, HBA⟩
  case round =>
    obtain ⟨b, wl, hbL, rfl, hwk, hbw, hb⟩ := hrel
    have HWLN : Hid (wl.length = n) := Lib.hid (by rw [wrK_len l t most b wl hwk.out, HL.out])
    by_cases hlt : b < n0
    · obtain ⟨w3, rfl⟩ : ∃ w3, w3 = wr := ⟨_, rfl⟩
      have hbC : Below w3.heap.size w3 (w3.alloc (.cells #[.slice none 0 0, .slice none 0 0, .int .i64 (t : Int)] 81)) := (Below.refl _ _).alloc (Nat.le_refl _) _
      go_wp2_with fail
      obtain ⟨gc, hgc⟩ : ∃ g, g = w3.heap.size := ⟨_, rfl⟩
      obtain ⟨wo, hwo⟩ : ∃ wo, wo = w3.alloc (.cells #[.slice none 0 0, .slice none 0 0, .int .i64 (t : Int)] 81) := ⟨_, rfl⟩
      have GC : Hid (gc < wo.heap.size) := Lib.hid (by rw [hwo, hgc]; simp)
      have HF0 : Hid (Fill wo gc t ((coX l).take 0) ((coY l b).take 0) wo) := Lib.hid ⟨⟨none, 0, 0, none, 0, 0, by rw [hwo, hgc]; exact Blk.new _ _ _, R2.nil _ _⟩, Kp.refl _ _⟩
      rw [← hwo] at hbC
      have HOW : Hid (Below w.heap.size w wo) := Lib.hid (below_then hb.out hbC)
      have HGWO : Hid (Blk wo gw 4 (boR wl)) := Lib.hid (hbw.out.kept hbC)
      have hgcw : gc ≠ gw := by rw [hgc]; have := hbw.out.lt; omega
      have hgwo : gw < wo.heap.size := HGWO.out.lt
      have hwgc : w.heap.size ≤ gc := by rw [hgc]; exact hb.out.size
      rw [← hwo, ← hgc]
      clear hbC hwo hgc hb hbw
      obtain ⟨cx, hcx⟩ : ∃ cx, cx = coX l := ⟨_, rfl⟩
      obtain ⟨cy, hcy⟩ : ∃ cy, cy = coY l b := ⟨_, rfl⟩
      rw [← hcx, ← hcy] at HF0
      have HCX0 : Hid (∀ k, k < n → cx.take k ++ [gX l k] = cx.take (k + 1)) := Lib.hid (fun k hk => by
        have h1 : k < cx.length := by rw [hcx, coX, tab_length, HL.out]; exact hk
        rw [List.take_succ_eq_append_getElem h1, ← gB_eq h1, hcx, coX, gB_tab _ (by rw [HL.out]; exact hk)])
      have HCY0 : Hid (∀ k, k < n → cy.take k ++ [gB (gS l k).2 b] = cy.take (k + 1)) := Lib.hid (fun k hk => by
        have h1 : k < cy.length := by rw [hcy, coY, tab_length, HL.out]; exact hk
        rw [List.take_succ_eq_append_getElem h1, ← gB_eq h1, hcy, coY, gB_tab _ (by rw [HL.out]; exact hk)])
      have HCXE := Lib.hid hcx
      have HCYE := Lib.hid hcy
      clear hcx hcy
      go_loopw [47] (fun i wr => ∃ k : Nat, k ≤ n ∧ i = .int .i64 (k : Int) ∧ Hid (Fill wo gc t (cx.take k) (cy.take k) wr)) (fun i _ => n - (intOf i).toNat)
      case atStart => exact ⟨0, by omega, rfl, HF0⟩
      case round =>
        obtain ⟨k, hk, rfl, hfill⟩ := hrel
        have hbw : Below w.heap.size w wr := HOW.out.trans (hfill.out.kp.below HOW.out.size (fun q e => by rw [e]; exact hwgc))
        by_cases hkn : k < n
        · obtain ⟨g', o', Ad, nd, cd, e', y1, y2, y3⟩ := H.out.at_ hbw hkn
          cases Option.some.inj e'
          rw [HXR.out k hkn] at y1
          obtain rfl : nd = n0 := by rw [← y3.1]; exact HQ.out k (by rw [HL.out]; exact hkn)
          obtain ⟨gd, od, rfl, y4⟩ := y3.at_ (Below.refl _ _) hlt
          have HGD : Hid (gd < w.heap.size) := Lib.hid (by
            obtain ⟨g2', o2', Ad2, nd2, cd2, e2', _, y22, y23⟩ := H.out.at_ (Below.refl _ _) hkn
            cases Option.some.inj e2'
            have y24 := cell_kept hbw y22
            rw [y2] at y24
            have e5 := Option.some.inj y24
            injection e5 with e6 e7 e8
            subst e7
            obtain ⟨g3, o3, e3, hc3⟩ := y23.2.2.2 b hlt
            rw [← e6] at e3
            cases Option.some.inj e3
            exact cell_lt hc3)
          obtain ⟨⟨A1, n1, c1, A2, n2, c2, hk0, hr0⟩, hkp0⟩ := hfill.out
          have HX := Lib.hid (HCX0.out k hkn)
          have HY := Lib.hid (HCY0.out k hkn)
          obtain ⟨x, hx⟩ : ∃ x, x = gX l k := ⟨_, rfl⟩
          obtain ⟨y, hy⟩ : ∃ y, y = gB (gS l k).2 b := ⟨_, rfl⟩
          rw [← hx] at y1 HX
          rw [← hy] at y4 HY
          obtain ⟨gs, hgs⟩ : ∃ g, g = wr.heap.size := ⟨_, rfl⟩
          have G1 : Hid (∀ q, (Value.slice A1 n1 c1).ownBlock = some q → q ≠ gs) := Lib.hid (fun q h => by have := (hr0.o1.lt q h).2; omega)
          have G2 : Hid (∀ q, (Value.slice A2 n2 c2).ownBlock = some q → q ≠ gs) := Lib.hid (fun q h => by have := (hr0.o2.lt q h).2; omega)
          have hgso : wo.heap.size ≤ gs := by rw [hgs]; exact hkp0.size
          have HLL : Hid ((cx.take k).length ≤ 64 ∧ (cy.take k).length ≤ 64) := Lib.hid (by have h1 := List.length_take_le k cx; have h2 := List.length_take_le k cy; omega)
          have hbS : Below wr.heap.size wr (wr.alloc (.cells #[.int .i64 (bv x), .slice (some ⟨gd, od, none⟩) nd cd] 33)) := (Below.refl _ _).alloc (Nat.le_refl _) _
          have Y1 := Lib.hid y1
          have Y2 := Lib.hid y2
          have Y4 := Lib.hid y4
          clear hx hy y3 y4 hfill
          go_wp2_with fail
          clear y1 y2 Y1 Y2
          obtain ⟨wd, hwd⟩ : ∃ wd : World, wd = (wr.alloc (.cells #[.int .i64 (bv x), .slice (some ⟨gd, od, none⟩) nd cd] 33)).drew := ⟨_, rfl⟩
          have hbd : Below wr.heap.size wr wd := by rw [hwd]; exact hbS.drew
          have Z0 : Hid (Blk wd gc 81 #[.slice A1 n1 c1, .slice A2 n2 c2, .int .i64 (t : Int)]) := Lib.hid (hk0.kept hbd)
          have hsb : Blk wd gs 33 #[.int .i64 (bv x), .slice (some ⟨gd, od, none⟩) nd cd] := by rw [hwd, hgs]; exact (Blk.new wr _ _).drew
          have s1 : wd.cell? ⟨gc, 0, none⟩ = some (.slice A1 n1 c1) := by rw [Z0.out.cell]; rfl
          have s2 : wd.cell? ⟨gc, 1, none⟩ = some (.slice A2 n2 c2) := by rw [Z0.out.cell]; rfl
          have s3 : wd.cell? ⟨gs, 0, none⟩ = some (.int .i64 (bv x)) := by rw [hsb.cell]; rfl
          have s4 : wd.cell? ⟨gs, 1, none⟩ = some (.slice (some ⟨gd, od, none⟩) nd cd) := by rw [hsb.cell]; rfl
          have s5 : wd.cell? ⟨gd, od + b, none⟩ = some (B y) := cell_kept hbd Y4.out
          have Z1 := Lib.hid s1
          have Z2 := Lib.hid s2
          have Z3 := Lib.hid s3
          have Z4 := Lib.hid s4
          have Z5 := Lib.hid s5
          have hgdw := HGD.out
          have hwwo := HOW.out.size
          have hgcwo := GC.out
          have N1 : Hid (¬ (wo.heap.size ≤ gc ∧ gc ≠ gs)) := Lib.hid (by omega)
          have N2 : Hid (¬ (wo.heap.size ≤ gs ∧ gs ≠ gs)) := Lib.hid (by omega)
          have N3 : Hid (¬ (wo.heap.size ≤ gd ∧ gd ≠ gs)) := Lib.hid (by omega)
          have HCwd : Hid (R2 wo.heap.size wd (.slice A1 n1 c1) (.slice A2 n2 c2) (cx.take k) (cy.take k)) := Lib.hid (hr0.kept hbd)
          have HKwd : Hid (Kp (fun b => wo.heap.size ≤ b ∧ b ≠ gs) wd wd) := Lib.hid (Kp.refl _ _)
          have HOwd : Hid (Kp (· = gc) wo wd) := Lib.hid (hkp0.then hbd)
          clear hk0 hr0 hkp0 hsb hbd hbS Y4 hgdw hwwo hgcwo
          rw [← hgs]
          clear hgs
          refine Text.wp_region_bt (fun w' => w'.cell? ⟨gc, 0, none⟩ = some (.slice A1 n1 c1) ∧ w'.cell? ⟨gc, 1, none⟩ = some (.slice A2 n2 c2) ∧ w'.cell? ⟨gs, 0, none⟩ = some (.int .i64 (bv x)) ∧ w'.cell? ⟨gs, 1, none⟩ = some (.slice (some ⟨gd, od, none⟩) nd cd) ∧ w'.cell? ⟨gd, od + b, none⟩ = some (B y)) (.still 0 4 (.still 2 4 (.still 7 4 (.still 9 4 (.still 11 4 (.still 1 0 (.still 3 0 (.still 4 4 (.still 8 0 (.still 10 0 (.still 12 4 (.still 13 0 (.br 5 (.br 6 (.eff 14 (.eff 15 (.still 16 4 (.last 17 (.still 18 4 (.last 19 .leaf)))))) 14 (.eff 6 (.eff 15 (.still 16 4 (.last 17 (.still 18 4 (.last 19 .leaf))))))) 14 (.eff 5 (.eff 6 (.eff 15 (.still 16 4 (.last 17 (.still 18 4 (.last 19 .leaf)))))))))))))))))))) (by kernel_rfl) (by kernel_rfl) (fun _ _ _ _ _ h => h) ((by rw [← hwd]; exact ⟨s1, s2, s3, s4, s5⟩)) ?_
          rw [← hwd]
          clear hwd
          iterate 5 (refine Text.bpurek rfl rfl (fun K hK => ⟨_, fun w' => by go_simp <;> rfl, ?_⟩); go_simp; refine hK _ ?_; clear hK K)
          (refine Text.bheldk rfl rfl (fun K hK => ⟨_, fun w' hw' => by have h9 := hw'.1; go_simp <;> rfl, ?_⟩); go_simp; refine hK _ ?_; clear hK K)
          (refine Text.bheldk rfl rfl (fun K hK => ⟨_, fun w' hw' => by have h9 := hw'.2.2.1; go_simp <;> rfl, ?_⟩); go_simp; refine hK _ ?_; clear hK K)
          (refine Text.bpurek rfl rfl (fun K hK => ⟨_, fun w' => by go_simp <;> rfl, ?_⟩); go_simp; refine hK _ ?_; clear hK K)
          (refine Text.bheldk rfl rfl (fun K hK => ⟨_, fun w' hw' => by have h9 := hw'.2.1; go_simp <;> rfl, ?_⟩); go_simp; refine hK _ ?_; clear hK K)
          (refine Text.bheldk rfl rfl (fun K hK => ⟨_, fun w' hw' => by have h9 := hw'.2.2.2.1; go_simp <;> rfl, ?_⟩); go_simp; refine hK _ ?_; clear hK K)
          (refine Text.bpurek rfl rfl (fun K hK => ⟨_, fun w' => by go_simp <;> rfl, ?_⟩); go_simp; refine hK _ ?_; clear hK K)
          (refine Text.bheldk rfl rfl (fun K hK => ⟨_, fun w' hw' => by have h9 := hw'.2.2.2.2; go_simp <;> rfl, ?_⟩); go_simp; refine hK _ ?_; clear hK K)
          clear s1 s2 s3 s4 s5
          refine Text.bfork ?_ ?_
          · refine Text.beff rfl rfl (fun K hK => ?_)
            go_simp
            obtain ⟨gA, hggA⟩ : ∃ g, g = wd.heap.size := ⟨_, rfl⟩
            obtain ⟨wa1, hwwa1⟩ : ∃ w' : World, w' = wd.alloc (.cells #[B (x)] 5) := ⟨_, rfl⟩
            have kbwa1 : Below wd.heap.size wd wa1 := by rw [hwwa1]; exact (Below.refl _ _).alloc (Nat.le_refl _) _
            have HgAwa1 : Hid (Blk wa1 gA 5 #[B (x)]) := Lib.hid (by rw [hwwa1, hggA]; exact Blk.new _ _ _)
            have HCwa1 := Lib.hid (HCwd.out.kept kbwa1)
            have HKwa1 := Lib.hid (HKwd.out.then kbwa1)
            have HOwa1 := Lib.hid (HOwd.out.then kbwa1)
            rw [← hwwa1, ← hggA]
            refine hK _ _ (⟨HKwa1.out.cell Z1.out N1.out, HKwa1.out.cell Z2.out N1.out, HKwa1.out.cell Z3.out N2.out, HKwa1.out.cell Z4.out N2.out, HKwa1.out.cell Z5.out N3.out⟩) ?_
            clear hK K kbwa1 hwwa1 hggA
            refine Text.bfork ?_ ?_
            · refine Text.beff rfl rfl (fun K hK => ?_)
              refine wp_app1 wa1 (.tmp 52) (.tmp 56) 22 5 (.int .u8 0) 1 Try.underlying22 infoU8 rfl rfl wo.heap.size (.slice A1 n1 c1) (cx.take k).length ((cx.take k).map B) rfl HCwa1.out.o1 gA 1 5 (B (x)) rfl HgAwa1.out rfl (by have := HLL.out; omega) (by have := HLL.out; omega) HOwa1.out.size ?_
              intro va2 wa2 hpwa2
              have HCwa2 := Lib.hid (HCwa1.out.app1 hpwa2)
              have HKwa2 := Lib.hid (HKwa1.out.grown hpwa2.2.1 (fun q hq => .inl ⟨own_base HCwa1.out.o1 q hq, G1.out q hq⟩))
              have HOwa2 := Lib.hid (HOwa1.out.grown hpwa2.2.1 (fun q hq => .inr (own_base HCwa1.out.o1 q hq)))
              refine hK _ _ (⟨HKwa2.out.cell Z1.out N1.out, HKwa2.out.cell Z2.out N1.out, HKwa2.out.cell Z3.out N2.out, HKwa2.out.cell Z4.out N2.out, HKwa2.out.cell Z5.out N3.out⟩) ?_
              clear hK K hpwa2
              refine Text.beff rfl rfl (fun K hK => ?_)
              go_simp
              obtain ⟨gS, hggS⟩ : ∃ g, g = wa2.heap.size := ⟨_, rfl⟩
              obtain ⟨wa3, hwwa3⟩ : ∃ w' : World, w' = wa2.alloc (.cells #[B (y)] 5) := ⟨_, rfl⟩
              have kbwa3 : Below wa2.heap.size wa2 wa3 := by rw [hwwa3]; exact (Below.refl _ _).alloc (Nat.le_refl _) _
              have HgSwa3 : Hid (Blk wa3 gS 5 #[B (y)]) := Lib.hid (by rw [hwwa3, hggS]; exact Blk.new _ _ _)
              have HCwa3 := Lib.hid (HCwa2.out.kept kbwa3)
              have HKwa3 := Lib.hid (HKwa2.out.then kbwa3)
              have HOwa3 := Lib.hid (HOwa2.out.then kbwa3)
              rw [← hwwa3, ← hggS]
              refine hK _ _ (⟨HKwa3.out.cell Z1.out N1.out, HKwa3.out.cell Z2.out N1.out, HKwa3.out.cell Z3.out N2.out, HKwa3.out.cell Z4.out N2.out, HKwa3.out.cell Z5.out N3.out⟩) ?_
              clear hK K kbwa3 hwwa3 hggS
              refine Text.beff rfl rfl (fun K hK => ?_)
              refine wp_app1 wa3 (.tmp 59) (.tmp 65) 22 5 (.int .u8 0) 1 Try.underlying22 infoU8 rfl rfl wo.heap.size (.slice A2 n2 c2) (cy.take k).length ((cy.take k).map B) rfl HCwa3.out.o2 gS 1 5 (B (y)) rfl HgSwa3.out rfl (by have := HLL.out; omega) (by have := HLL.out; omega) HOwa3.out.size ?_
              intro va4 wa4 hpwa4
              have HCwa4 := Lib.hid (HCwa3.out.app2 hpwa4)
              have HKwa4 := Lib.hid (HKwa3.out.grown hpwa4.2.1 (fun q hq => .inl ⟨own_base HCwa3.out.o2 q hq, G2.out q hq⟩))
              have HOwa4 := Lib.hid (HOwa3.out.grown hpwa4.2.1 (fun q hq => .inr (own_base HCwa3.out.o2 q hq)))
              refine hK _ _ (⟨HKwa4.out.cell Z1.out N1.out, HKwa4.out.cell Z2.out N1.out, HKwa4.out.cell Z3.out N2.out, HKwa4.out.cell Z4.out N2.out, HKwa4.out.cell Z5.out N3.out⟩) ?_
              clear hK K hpwa4
              obtain ⟨mp, gp, capp, hmp, rfl⟩ := own_form (by simp) HCwa4.out.o1
              obtain ⟨mq, gq, capq, hmq, rfl⟩ := own_form (by simp) HCwa4.out.o2
              have hkc := HKwa4.out.blk Z0.out N1.out
              have f0 := hkc.frozen 0
              have f1 := hkc.frozen 1
              have e0 : wa4.cell? ⟨gc, 0, none⟩ = some (.slice A1 n1 c1) := by rw [hkc.cell]; rfl
              have e1 : wa4.cell? ⟨gc, 1, none⟩ = some (.slice A2 n2 c2) := by rw [hkc.cell]; rfl
              have HZ := Lib.hid (fill_end HCwa4.out hkc HOwa4.out GC.out)
              clear hkc hmp hmq
              (refine Text.bpurek rfl rfl (fun K hK => ⟨_, fun w' => by go_simp <;> rfl, ?_⟩); go_simp; refine hK _ ?_; clear hK K)
              refine Text.blast rfl rfl (fun K hK => ?_)
              go_simp
              refine hK _ _ ?_
              clear hK K
              (refine Text.bpurek rfl rfl (fun K hK => ⟨_, fun w' => by go_simp <;> rfl, ?_⟩); go_simp; refine hK _ ?_; clear hK K)
              refine Text.blast rfl rfl (fun K hK => ?_)
              go_simp
              refine hK _ _ ?_
              clear hK K
              refine Text.bdone ?_
              clear e0 e1 f0 f1
              go_wp2_with fail
              go_roundw
              case rel => exact ⟨k + 1, by omega, by go_num, Lib.hid (fill_next HZ.out HX.out HY.out)⟩
              case measure => simp [intOf]; omega
            · refine Text.beff rfl rfl (fun K hK => ?_)
              go_simp
              obtain ⟨gS, hggS⟩ : ∃ g, g = wa1.heap.size := ⟨_, rfl⟩
              obtain ⟨wb2, hwwb2⟩ : ∃ w' : World, w' = wa1.alloc (.cells #[B (y)] 5) := ⟨_, rfl⟩
              have kbwb2 : Below wa1.heap.size wa1 wb2 := by rw [hwwb2]; exact (Below.refl _ _).alloc (Nat.le_refl _) _
              have HgSwb2 : Hid (Blk wb2 gS 5 #[B (y)]) := Lib.hid (by rw [hwwb2, hggS]; exact Blk.new _ _ _)
              have HgAwb2 := Lib.hid (HgAwa1.out.kept kbwb2)
              have HCwb2 := Lib.hid (HCwa1.out.kept kbwb2)
              have HKwb2 := Lib.hid (HKwa1.out.then kbwb2)
              have HOwb2 := Lib.hid (HOwa1.out.then kbwb2)
              have HLgSwb2 : Hid (∀ q, (Value.slice A1 n1 c1).ownBlock = some q → q < gS) := Lib.hid (fun q h => by have := (HCwa1.out.o1.lt q h).2; omega)
              rw [← hwwb2, ← hggS]
              refine hK _ _ (⟨HKwb2.out.cell Z1.out N1.out, HKwb2.out.cell Z2.out N1.out, HKwb2.out.cell Z3.out N2.out, HKwb2.out.cell Z4.out N2.out, HKwb2.out.cell Z5.out N3.out⟩) ?_
              clear hK K kbwb2 hwwb2 hggS
              refine Text.beff rfl rfl (fun K hK => ?_)
              refine wp_app1 wb2 (.tmp 52) (.tmp 56) 22 5 (.int .u8 0) 1 Try.underlying22 infoU8 rfl rfl wo.heap.size (.slice A1 n1 c1) (cx.take k).length ((cx.take k).map B) rfl HCwb2.out.o1 gA 1 5 (B (x)) rfl HgAwb2.out rfl (by have := HLL.out; omega) (by have := HLL.out; omega) HOwb2.out.size ?_
              intro vb3 wb3 hpwb3
              have HCwb3 := Lib.hid (HCwb2.out.app1 hpwb3)
              have HKwb3 := Lib.hid (HKwb2.out.grown hpwb3.2.1 (fun q hq => .inl ⟨own_base HCwb2.out.o1 q hq, G1.out q hq⟩))
              have HOwb3 := Lib.hid (HOwb2.out.grown hpwb3.2.1 (fun q hq => .inr (own_base HCwb2.out.o1 q hq)))
              have HgSwb3 := Lib.hid (grown_blk hpwb3.2.1 HgSwb2.out (fun e => by have := HLgSwb2.out _ e; omega))
              refine hK _ _ (⟨HKwb3.out.cell Z1.out N1.out, HKwb3.out.cell Z2.out N1.out, HKwb3.out.cell Z3.out N2.out, HKwb3.out.cell Z4.out N2.out, HKwb3.out.cell Z5.out N3.out⟩) ?_
              clear hK K hpwb3
              refine Text.beff rfl rfl (fun K hK => ?_)
              refine wp_app1 wb3 (.tmp 59) (.tmp 65) 22 5 (.int .u8 0) 1 Try.underlying22 infoU8 rfl rfl wo.heap.size (.slice A2 n2 c2) (cy.take k).length ((cy.take k).map B) rfl HCwb3.out.o2 gS 1 5 (B (y)) rfl HgSwb3.out rfl (by have := HLL.out; omega) (by have := HLL.out; omega) HOwb3.out.size ?_
              intro vb4 wb4 hpwb4
              have HCwb4 := Lib.hid (HCwb3.out.app2 hpwb4)
              have HKwb4 := Lib.hid (HKwb3.out.grown hpwb4.2.1 (fun q hq => .inl ⟨own_base HCwb3.out.o2 q hq, G2.out q hq⟩))
              have HOwb4 := Lib.hid (HOwb3.out.grown hpwb4.2.1 (fun q hq => .inr (own_base HCwb3.out.o2 q hq)))
              refine hK _ _ (⟨HKwb4.out.cell Z1.out N1.out, HKwb4.out.cell Z2.out N1.out, HKwb4.out.cell Z3.out N2.out, HKwb4.out.cell Z4.out N2.out, HKwb4.out.cell Z5.out N3.out⟩) ?_
              clear hK K hpwb4
              obtain ⟨mp, gp, capp, hmp, rfl⟩ := own_form (by simp) HCwb4.out.o1
              obtain ⟨mq, gq, capq, hmq, rfl⟩ := own_form (by simp) HCwb4.out.o2
              have hkc := HKwb4.out.blk Z0.out N1.out
              have f0 := hkc.frozen 0
              have f1 := hkc.frozen 1
              have e0 : wb4.cell? ⟨gc, 0, none⟩ = some (.slice A1 n1 c1) := by rw [hkc.cell]; rfl
              have e1 : wb4.cell? ⟨gc, 1, none⟩ = some (.slice A2 n2 c2) := by rw [hkc.cell]; rfl
              have HZ := Lib.hid (fill_end HCwb4.out hkc HOwb4.out GC.out)
              clear hkc hmp hmq
              (refine Text.bpurek rfl rfl (fun K hK => ⟨_, fun w' => by go_simp <;> rfl, ?_⟩); go_simp; refine hK _ ?_; clear hK K)
              refine Text.blast rfl rfl (fun K hK => ?_)
              go_simp
              refine hK _ _ ?_
              clear hK K
              (refine Text.bpurek rfl rfl (fun K hK => ⟨_, fun w' => by go_simp <;> rfl, ?_⟩); go_simp; refine hK _ ?_; clear hK K)
              refine Text.blast rfl rfl (fun K hK => ?_)
              go_simp
              refine hK _ _ ?_
              clear hK K
              refine Text.bdone ?_
              clear e0 e1 f0 f1
              go_wp2_with fail
              go_roundw
              case rel => exact ⟨k + 1, by omega, by go_num, Lib.hid (fill_next HZ.out HX.out HY.out)⟩
              case measure => simp [intOf]; omega
          · refine Text.beff rfl rfl (fun K hK => ?_)
            go_simp
            obtain ⟨gS, hggS⟩ : ∃ g, g = wd.heap.size := ⟨_, rfl⟩
            obtain ⟨wc1, hwwc1⟩ : ∃ w' : World, w' = wd.alloc (.cells #[B (y)] 5) := ⟨_, rfl⟩
            have kbwc1 : Below wd.heap.size wd wc1 := by rw [hwwc1]; exact (Below.refl _ _).alloc (Nat.le_refl _) _
            have HgSwc1 : Hid (Blk wc1 gS 5 #[B (y)]) := Lib.hid (by rw [hwwc1, hggS]; exact Blk.new _ _ _)
            have HCwc1 := Lib.hid (HCwd.out.kept kbwc1)
            have HKwc1 := Lib.hid (HKwd.out.then kbwc1)
            have HOwc1 := Lib.hid (HOwd.out.then kbwc1)
            have HLgSwc1 : Hid (∀ q, (Value.slice A1 n1 c1).ownBlock = some q → q < gS) := Lib.hid (fun q h => by have := (HCwd.out.o1.lt q h).2; omega)
            rw [← hwwc1, ← hggS]
            refine hK _ _ (⟨HKwc1.out.cell Z1.out N1.out, HKwc1.out.cell Z2.out N1.out, HKwc1.out.cell Z3.out N2.out, HKwc1.out.cell Z4.out N2.out, HKwc1.out.cell Z5.out N3.out⟩) ?_
            clear hK K kbwc1 hwwc1 hggS
            refine Text.beff rfl rfl (fun K hK => ?_)
            go_simp
            obtain ⟨gA, hggA⟩ : ∃ g, g = wc1.heap.size := ⟨_, rfl⟩
            obtain ⟨wc2, hwwc2⟩ : ∃ w' : World, w' = wc1.alloc (.cells #[B (x)] 5) := ⟨_, rfl⟩
            have kbwc2 : Below wc1.heap.size wc1 wc2 := by rw [hwwc2]; exact (Below.refl _ _).alloc (Nat.le_refl _) _
            have HgAwc2 : Hid (Blk wc2 gA 5 #[B (x)]) := Lib.hid (by rw [hwwc2, hggA]; exact Blk.new _ _ _)
            have HgSwc2 := Lib.hid (HgSwc1.out.kept kbwc2)
            have HCwc2 := Lib.hid (HCwc1.out.kept kbwc2)
            have HKwc2 := Lib.hid (HKwc1.out.then kbwc2)
            have HOwc2 := Lib.hid (HOwc1.out.then kbwc2)
            rw [← hwwc2, ← hggA]
            refine hK _ _ (⟨HKwc2.out.cell Z1.out N1.out, HKwc2.out.cell Z2.out N1.out, HKwc2.out.cell Z3.out N2.out, HKwc2.out.cell Z4.out N2.out, HKwc2.out.cell Z5.out N3.out⟩) ?_
            clear hK K kbwc2 hwwc2 hggA
            refine Text.beff rfl rfl (fun K hK => ?_)
            refine wp_app1 wc2 (.tmp 52) (.tmp 56) 22 5 (.int .u8 0) 1 Try.underlying22 infoU8 rfl rfl wo.heap.size (.slice A1 n1 c1) (cx.take k).length ((cx.take k).map B) rfl HCwc2.out.o1 gA 1 5 (B (x)) rfl HgAwc2.out rfl (by have := HLL.out; omega) (by have := HLL.out; omega) HOwc2.out.size ?_
            intro vc3 wc3 hpwc3
            have HCwc3 := Lib.hid (HCwc2.out.app1 hpwc3)
            have HKwc3 := Lib.hid (HKwc2.out.grown hpwc3.2.1 (fun q hq => .inl ⟨own_base HCwc2.out.o1 q hq, G1.out q hq⟩))
            have HOwc3 := Lib.hid (HOwc2.out.grown hpwc3.2.1 (fun q hq => .inr (own_base HCwc2.out.o1 q hq)))
            have HgSwc3 := Lib.hid (grown_blk hpwc3.2.1 HgSwc2.out (fun e => by have := HLgSwc1.out _ e; omega))
            refine hK _ _ (⟨HKwc3.out.cell Z1.out N1.out, HKwc3.out.cell Z2.out N1.out, HKwc3.out.cell Z3.out N2.out, HKwc3.out.cell Z4.out N2.out, HKwc3.out.cell Z5.out N3.out⟩) ?_
            clear hK K hpwc3
            refine Text.beff rfl rfl (fun K hK => ?_)
            refine wp_app1 wc3 (.tmp 59) (.tmp 65) 22 5 (.int .u8 0) 1 Try.underlying22 infoU8 rfl rfl wo.heap.size (.slice A2 n2 c2) (cy.take k).length ((cy.take k).map B) rfl HCwc3.out.o2 gS 1 5 (B (y)) rfl HgSwc3.out rfl (by have := HLL.out; omega) (by have := HLL.out; omega) HOwc3.out.size ?_
            intro vc4 wc4 hpwc4
            have HCwc4 := Lib.hid (HCwc3.out.app2 hpwc4)
            have HKwc4 := Lib.hid (HKwc3.out.grown hpwc4.2.1 (fun q hq => .inl ⟨own_base HCwc3.out.o2 q hq, G2.out q hq⟩))
            have HOwc4 := Lib.hid (HOwc3.out.grown hpwc4.2.1 (fun q hq => .inr (own_base HCwc3.out.o2 q hq)))
            refine hK _ _ (⟨HKwc4.out.cell Z1.out N1.out, HKwc4.out.cell Z2.out N1.out, HKwc4.out.cell Z3.out N2.out, HKwc4.out.cell Z4.out N2.out, HKwc4.out.cell Z5.out N3.out⟩) ?_
            clear hK K hpwc4
            obtain ⟨mp, gp, capp, hmp, rfl⟩ := own_form (by simp) HCwc4.out.o1
            obtain ⟨mq, gq, capq, hmq, rfl⟩ := own_form (by simp) HCwc4.out.o2
            have hkc := HKwc4.out.blk Z0.out N1.out
            have f0 := hkc.frozen 0
            have f1 := hkc.frozen 1
            have e0 : wc4.cell? ⟨gc, 0, none⟩ = some (.slice A1 n1 c1) := by rw [hkc.cell]; rfl
            have e1 : wc4.cell? ⟨gc, 1, none⟩ = some (.slice A2 n2 c2) := by rw [hkc.cell]; rfl
            have HZ := Lib.hid (fill_end HCwc4.out hkc HOwc4.out GC.out)
            clear hkc hmp hmq
            (refine Text.bpurek rfl rfl (fun K hK => ⟨_, fun w' => by go_simp <;> rfl, ?_⟩); go_simp; refine hK _ ?_; clear hK K)
            refine Text.blast rfl rfl (fun K hK => ?_)
            go_simp
            refine hK _ _ ?_
            clear hK K
            (refine Text.bpurek rfl rfl (fun K hK => ⟨_, fun w' => by go_simp <;> rfl, ?_⟩); go_simp; refine hK _ ?_; clear hK K)
            refine Text.blast rfl rfl (fun K hK => ?_)
            go_simp
            refine hK _ _ ?_
            clear hK K
            refine Text.bdone ?_
            clear e0 e1 f0 f1
            go_wp2_with fail
            go_roundw
            case rel => exact ⟨k + 1, by omega, by go_num, Lib.hid (fill_next HZ.out HX.out HY.out)⟩
            case measure => simp [intOf]; omega
        · obtain rfl : k = n := by omega
          obtain ⟨⟨A1, n1, c1, A2, n2, c2, hk0, hr0⟩, hkp0⟩ := hfill.out
          have HLX : Hid (cx.length = k) := Lib.hid (by rw [HCXE.out, coX, tab_length, HL.out])
          have HLY : Hid (cy.length = k) := Lib.hid (by rw [HCYE.out, coY, tab_length, HL.out])
          rw [List.take_of_length_le (by rw [HLX.out]; exact Nat.le_refl _), List.take_of_length_le (by rw [HLY.out]; exact Nat.le_refl _)] at hr0
          have o1 := hr0.o1
          have o2 := hr0.o2
          rw [HLX.out] at o1
          rw [HLY.out] at o2
          obtain ⟨A1', c1', e1, b1⟩ := BS.of_own o1 (by unfold lim; omega)
          injection e1 with e11 e12 e13
          subst e11 e12 e13
          obtain ⟨A2', c2', e2, b2⟩ := BS.of_own o2 (by unfold lim; omega)
          injection e2 with e21 e22 e23
          subst e21 e22 e23
          have HCol : Hid (Col wr gc A1 A2 n2 c1 c2 t cx cy) := Lib.hid ⟨by rw [hk0.cell]; rfl, by rw [hk0.cell]; rfl, by rw [hk0.cell]; rfl, b1, b2⟩
          have HA1 : Hid (AtB A1 (· ≠ gw)) := Lib.hid (fun a e => by subst e; have := (o1.lt a.block rfl).1; omega)
          have HA2 : Hid (AtB A2 (· ≠ gw)) := Lib.hid (fun a e => by subst e; have := (o2.lt a.block rfl).1; omega)
          have HWW : Hid (Blk wr gw 4 (boR wl)) := Lib.hid (hkp0.blk HGWO.out (fun e => hgcw e.symm))
          have HDSC : Hid (Py.Dst cx) := Lib.hid (by rw [HCXE.out]; exact HDS.out)
          have HBW := Lib.hid hbw
          clear hk0 hr0 hkp0 hfill o1 o2 b1 b2 hbw
          go_wp2_with fail
          refine (mark_any gc gw A1 A2 n2 c1 c2 t most _ cx cy wl wr HCol.out HWW.out HWLN.out (by omega) (by omega) HDSC.out hgcw HA1.out HA2.out).mono ?_
          rintro e w5 ⟨rfl, h51, h52⟩
          have HB5 : Hid (Below w.heap.size w w5) := Lib.hid (HBW.out.trans (h52.below HBW.out.size (fun q e => by rw [e]; exact hgb)))
          have HWS : Hid (wrK l t most (b + 1) = if mkB cx cy wl t most then some (mkK cx cy (mkP cx cy wl t most) wl n2) else none) := Lib.hid (by
            rw [wrK, hwk.out, ← HCXE.out, ← HCYE.out, HL.out])
          cases hmb : mkB cx cy wl t most with
          | true =>
            rw [hmb] at HWS h51
            have HW5 := Lib.hid (h51 rfl)
            have HWS' : Hid (wrK l t most (b + 1) = some (mkK cx cy (mkP cx cy wl t most) wl n2)) := HWS
            clear h51 h52 HWS
            go_wp2_with fail
            go_roundw
            case rel => exact ⟨b + 1, _, by omega, by go_num, HWS', HW5, HB5⟩
            case measure => simp [intOf]; omega
          | false =>
            rw [hmb] at HWS
            have HNO : Hid (wrF l t = none) := Lib.hid (by
              have h1 : wrK l t most n0 = none := by
                have := wrK_none l t most (b + 1) HWS.out (n0 - (b + 1))
                rw [show b + 1 + (n0 - (b + 1)) = n0 by omega] at this
                exact this
              unfold wrF
              rw [HL.out, ← HMO.out, ← HLE.out, h1])
            clear h51 h52 HWS
            go_wp2_with fail
            go_ret2
            rw [HNO.out]
            exact ⟨HB5.out, rfl⟩
    · obtain rfl : b = n0 := by omega
      have HWF : Hid (wrF l t = if most < (reK l wl n).length then none else some (isort (reK l wl n))) := Lib.hid (by
        unfold wrF
        rw [HL.out, ← HMO.out, ← HLE.out, hwk.out])
      obtain ⟨wz, rfl⟩ : ∃ wz, wz = wr := ⟨_, rfl⟩
      go_wp2_with fail
      go_loopw [12, 77] (fun v i wr => ∃ (k q : Nat) (A : Option Addr) (c : Nat), k ≤ n ∧ i = .int .i64 (k : Int) ∧ v = .slice A q c ∧ q ≤ k ∧ Hid (q = (reK l wl k).length) ∧ Hid (wr.ownsRow wz.heap.size 3 1 v q ((reK l wl k).map (Value.int .i64))) ∧ Hid (Below wz.heap.size wz wr)) (fun _ i _ => n - (intOf i).toNat)
      case atStart => exact ⟨0, 0, none, 0, by omega, rfl, rfl, by omega, Lib.hid rfl, Lib.hid (World.ownsRow_nil _ _ _ _), Lib.hid (Below.refl _ _)⟩
      case round =>
        obtain ⟨k, q, A5, c5, hk, rfl, rfl, hqk, hq, hown, hbz⟩ := hrel
        by_cases hkn : k < n
        · obtain ⟨g', o', Ad, nd, cd, e', y1, y2, y3⟩ := H.out.at_ (below_then hb.out hbz.out) hkn
          cases Option.some.inj e'
          have hwc := (hbw.out.kept hbz.out).cell k
          rw [boR_get _ _ (by rw [HWLN.out]; exact hkn)] at hwc
          have hbS : Below wr.heap.size wr (wr.alloc (.cells #[.int .i64 (gS l k).1, .slice Ad nd cd] 33)) := (Below.refl _ _).alloc (Nat.le_refl _) _
          have hwc' := cell_kept hbS hwc
          have HBS := Lib.hid (below_then hbz.out hbS)
          have HOS := Lib.hid (Kp.own (S := fun _ => False) (Kp.of_below hbS) hown.out (fun _ _ => id))
          clear y3 hwc
          cases hgo : gO wl k with
          | false =>
            rw [hgo] at hwc'
            have HRE : Hid (reK l wl (k + 1) = reK l wl k) := Lib.hid (by rw [reK, hgo]; rfl)
            clear hbS
            go_wp2_with fail
            go_roundw
            case rel => exact ⟨k + 1, q, A5, c5, by omega, by go_num, rfl, by omega, by rw [HRE.out]; exact hq, by rw [HRE.out]; exact HOS, HBS⟩
            case measure => simp [intOf]; omega
          | true =>
            rw [hgo] at hwc'
            have HRE : Hid (reK l wl (k + 1) = reK l wl k ++ [(gS l k).1]) := Lib.hid (by rw [reK, hgo]; rfl)
            clear hbS
            obtain ⟨ws, hws⟩ : ∃ ws, ws = wr.alloc (.cells #[.int .i64 (gS l k).1, .slice Ad nd cd] 33) := ⟨_, rfl⟩
            have hbT : Below ws.heap.size ws (ws.alloc (.cells #[.int .i64 (gS l k).1] 3)) := (Below.refl _ _).alloc (Nat.le_refl _) _
            rw [← hws] at HBS HOS
            have HOT := Lib.hid (Kp.own (S := fun _ => False) (Kp.of_below hbT) HOS.out (fun _ _ => id))
            have HBT := Lib.hid (below_then HBS.out hbT)
            have HBK : Hid (Blk (ws.alloc (.cells #[.int .i64 (gS l k).1] 3)) (wr.heap.size + 1) 3 #[.int .i64 (gS l k).1]) := Lib.hid (by
              have := Blk.new ws 3 #[.int .i64 (gS l k).1]
              rw [hws, World.size_alloc] at this
              rw [hws]
              exact this)
            rw [hws] at HOT HBT HBK
            clear hbT hws HBS HOS
            go_wp2_with (first
              | (at_builtin; refine wpList_app1 _ rfl (.tmp 86) (.tmp 89) 24 3 (.int .i64 0) 8 Try.underlying24 infoInt rfl rfl wz.heap.size (.slice A5 q c5) q ((reK l wl k).map (Value.int .i64)) rfl HOT.out (wr.heap.size + 1) 1 3 (.int .i64 (gS l k).1) rfl HBK.out rfl (by omega) (by omega) HBT.out.size ?_; intro v6 w6 hp6))
            obtain ⟨m6, g6, cap6, hm6, rfl⟩ := own_form (by omega) hp6.1
            have HR6 : Hid (w6.ownsRow wz.heap.size 3 1 (.slice (some ⟨g6, 0, none⟩) m6 cap6) m6 ((reK l wl (k + 1)).map (Value.int .i64))) := Lib.hid (by
              have h1 := hp6.1
              rw [HRE.out, List.map_append]
              rw [← hm6] at h1
              exact h1)
            have HB6 : Hid (Below wz.heap.size wz w6) := Lib.hid (HBT.out.grown hp6.2.1 HBT.out.size (fun b hb' => own_base HOT.out b hb'))
            have HQ6 : Hid (m6 = (reK l wl (k + 1)).length) := Lib.hid (by rw [hm6, HRE.out, List.length_append, ← hq.out]; rfl)
            have hm6k : m6 ≤ k + 1 := by omega
            clear hp6 hm6
            go_roundw
            case rel => exact ⟨k + 1, m6, _, cap6, by omega, by go_num, rfl, hm6k, HQ6, HR6, HB6⟩
            case measure => simp [intOf]; omega
        · obtain rfl : k = n := by omega
          by_cases hbig : most < q
          · have q1 : decide ((most : Int) < (q : Int)) = true := by simp; omega
            have q1' : decide (most < q) = true := by simpa using hbig
            have HNO : Hid (wrF l t = none) := Lib.hid (by rw [HWF.out, if_pos (by rw [← hq.out]; exact hbig)])
            go_wp2_with fail
            go_ret2
            rw [HNO.out]
            exact ⟨below_then hb.out hbz.out, rfl⟩
          · have q1 : decide ((most : Int) < (q : Int)) = false := by simp; omega
            have q1' : decide (most < q) = false := by simpa using hbig
            have HYES : Hid (wrF l t = some (isort (reK l wl k))) := Lib.hid (by rw [HWF.out, if_neg (by rw [← hq.out]; exact hbig)])
            have HIL : Hid ((isort (reK l wl k)).length = q) := Lib.hid (by rw [isort_length, hq.out])
            go_wp2_with fail
            refine (sort_own wz.heap.size (.slice A5 q c5) q _ wr hown.out (by omega)).mono ?_
            rintro e w4 ⟨rfl, hs4, hg4⟩
            have HB4 : Hid (Below w.heap.size w w4) := Lib.hid (below_then hb.out (hbz.out.grown hg4 hbz.out.size (fun b hb' => own_base hown.out b hb')))
            have HS4 := Lib.hid hs4
            clear hs4 hg4
            go_wp2_with fail
            go_ret2
            rw [HYES.out]
            refine ⟨HB4.out, _, rfl, ?_⟩
            rw [HIL.out]
            exact ownsRow_mono HS4.out hb.out.size
end Go.Proofs.Ytakedococfklgaa
/- Contract of shamir.Fits: the coefficients that fit. -/
namespace Go.Proofs.Ytakedococfklgaa
open Go.RowKit Gf

attribute [local go_sem] Gf.bv_toNat Gf.bv_wrap

def Rect (m : List (List UInt8)) (L : Nat) : Prop := ∀ i, i < m.length → (gR m i).length = L
section
/-- The outer block gO (capacity cap) holds n slices of W bytes; row i lies in block G i and reads as row i of m. -/
structure Tab (w : World) (base gO cap n W : Nat) (G : Nat → Nat) (m : List (List UInt8)) : Prop where
  len : m.length = n
  rect : Rect m W
  outer : ∃ cur : Array Value, Blk w gO 22 cur ∧ n ≤ cap ∧ cur.size = cap ∧ ∀ i, i < n → cur[i]? = some (.slice (some ⟨G i, 0, none⟩) W W)
  rows : ∀ i, i < n → Blk w (G i) 5 (row (gR m i))
  inj : ∀ i j, i < n → j < n → i ≠ j → G i ≠ G j
  far : ∀ i, i < n → G i ≠ gO
  old : base ≤ gO ∧ ∀ i, i < n → base ≤ G i

variable {w w' : World} {base gO cap n W : Nat} {G : Nat → Nat} {m : List (List UInt8)}
theorem Tab.cell (h : Tab w base gO cap n W G m) {i : Nat} (hi : i < n) : w.cell? ⟨gO, i, none⟩ = some (.slice (some ⟨G i, 0, none⟩) W W) := by
  obtain ⟨cur, h1, _, _, h2⟩ := h.outer
  rw [h1.cell]; exact h2 i hi
theorem Tab.outFrozen (h : Tab w base gO cap n W G m) (i : Nat) : w.frozen? ⟨gO, i, none⟩ = false := by
  obtain ⟨cur, h1, _⟩ := h.outer
  exact h1.frozen i
theorem Tab.at_ (h : Tab w base gO cap n W G m) {i k : Nat} (hi : i < n) (hk : k < W) : w.cell? ⟨G i, k, none⟩ = some (B (gB (gR m i) k)) := by
  rw [(h.rows i hi).cell]; exact row_get _ _ (by rw [h.rect i (by rw [h.len]; exact hi)]; exact hk)
theorem Tab.frozen (h : Tab w base gO cap n W G m) {i : Nat} (hi : i < n) (k : Nat) : w.frozen? ⟨G i, k, none⟩ = false := (h.rows i hi).frozen k
theorem Tab.kept (h : Tab w base gO cap n W G m) (hb : Below w.heap.size w w') : Tab w' base gO cap n W G m := by
  obtain ⟨cur, h1, h2⟩ := h.outer
  exact ⟨h.len, h.rect, ⟨cur, h1.kept hb, h2⟩, fun i hi => (h.rows i hi).kept hb, h.inj, h.far, h.old⟩
theorem Tab.drew (h : Tab w base gO cap n W G m) : Tab w.drew base gO cap n W G m := ⟨h.len, h.rect, h.outer, h.rows, h.inj, h.far, h.old⟩
theorem Tab.ms (h : Tab w base gO cap n W G m) (hn : n * 24 ≤ lim) (hW : W ≤ lim) : MS w (some ⟨gO, 0, none⟩) n cap m := by
  obtain ⟨cur, h1, h2, _, _⟩ := h.outer
  refine ⟨h.len, h2, hn, fun k hk => ⟨gO, 0, some ⟨G k, 0, none⟩, W, W, rfl, by rw [Nat.zero_add]; exact h.cell hk, BS.of_blk (h.rows k hk) (h.rect k (by rw [h.len]; exact hk)) hW⟩⟩
/-- A whole row is put. -/
theorem Tab.putRow (h : Tab w base gO cap n W G m) {i : Nat} (hi : i < n) {l : List UInt8} (hl : l.length = W) (hB : Blk w' (G i) 5 (row l)) (hk : ∀ g t cs, g ≠ G i → Blk w g t cs → Blk w' g t cs) : Tab w' base gO cap n W G (m.set i l) := by
  obtain ⟨cur, h1, h2⟩ := h.outer
  refine ⟨by simp [h.len], fun j hj => ?_, ⟨cur, hk _ _ _ (fun e => h.far i hi e.symm) h1, h2⟩, fun j hj => ?_, h.inj, h.far, h.old⟩
  · by_cases e : i = j
    · subst e; rw [gR_set_self (by rw [h.len]; exact hi)]; exact hl
    · rw [gR_set_ne e]; exact h.rect j (by simpa using hj)
  · by_cases e : i = j
    · subst e; rw [gR_set_self (by rw [h.len]; exact hi)]; exact hB
    · rw [gR_set_ne e]; exact hk _ _ _ (h.inj j i hj hi (fun e' => e e'.symm)) (h.rows j hj)
/-- One byte is put. -/
theorem Tab.put (h : Tab w base gO cap n W G m) {i : Nat} (hi : i < n) (k : Nat) (b : UInt8) : Tab (w.setCell ⟨G i, k, none⟩ (B b)) base gO cap n W G (m.set i ((gR m i).set k b)) :=
  h.putRow hi (by rw [List.length_set]; exact h.rect i (by rw [h.len]; exact hi)) (by rw [← row_set]; exact (h.rows i hi).set_ k (B b)) (fun _ _ _ hg hB => hB.far hg _)
theorem Tab.putBelow (h : Tab w base gO cap n W G m) {w0 : World} (hb : Below base w0 w) {i : Nat} (hi : i < n) (k : Nat) (v : Value) : Below base w0 (w.setCell ⟨G i, k, none⟩ v) := hb.setCell (h.old.2 i hi) v

def zmat (n W : Nat) : List (List UInt8) := List.replicate n (zeros W)
theorem zmat_get {n W i : Nat} (h : i < n) : gR (zmat n W) i = zeros W := by rw [gR_eq (by simpa [zmat] using h)]; simp [zmat]
theorem zmat_rect (n W : Nat) : Rect (zmat n W) W := fun i hi => by rw [zmat_get (by simpa [zmat] using hi), zeros_length]

def addG (G : Nat → Nat) (k g i : Nat) : Nat := if i < k then G i else g
theorem addG_lo {G : Nat → Nat} {k g i : Nat} (h : i < k) : addG G k g i = G i := if_pos h
theorem addG_hi {G : Nat → Nat} {k g i : Nat} (h : ¬ i < k) : addG G k g i = g := if_neg h
end

/-- What the first loop keeps: the elements so far, the rows so far. -/
structure FI (base gO n ns k : Nat) (cx : List UInt8) (v8 : Value) (G : Nat → Nat) (wr : World) : Prop where
  own : wr.ownsRow base 5 1 v8 (k + 1) ((0 :: cx.take k).map B)
  outer : ∃ cur : Array Value, Blk wr gO 22 cur ∧ cur.size = n ∧ (∀ i, i < k → cur[i]? = some (.slice (some ⟨G i, 0, none⟩) ns ns)) ∧ ∀ i, k ≤ i → i < n → cur[i]? = some (.slice none 0 0)
  rows : ∀ i, i < k → Blk wr (G i) 5 (row (zeros ns))
  inj : ∀ i j, i < k → j < k → i ≠ j → G i ≠ G j
  far : ∀ i, i < k → G i ≠ gO
  old : base ≤ gO ∧ ∀ i, i < k → base ≤ G i
  dis : ∀ i, i < k → v8.ownBlock ≠ some (G i)

theorem FI.kept {base gO n ns k : Nat} {cx : List UInt8} {v8 : Value} {G : Nat → Nat} {w w' : World} (h : FI base gO n ns k cx v8 G w) (hb : Below w.heap.size w w') : FI base gO n ns k cx v8 G w' := by
  obtain ⟨cur, c1, c2⟩ := h.outer
  exact ⟨Kp.own (S := fun _ => False) (Kp.of_below hb) h.own (fun _ _ => id), ⟨cur, c1.kept hb, c2⟩, fun i hi => (h.rows i hi).kept hb, h.inj, h.far, h.old, h.dis⟩

theorem FI.step {base gO n ns k : Nat} {cx : List UInt8} {v8 v' : Value} {G : Nat → Nat} {wb w6 : World} {x : UInt8} (h : FI base gO n ns k cx v8 G wb) (hk : k < n) (hx : cx.take k ++ [x] = cx.take (k + 1))
    (hp : AppPost base 5 v8 (k + 1) 1 ((0 :: cx.take k).map B ++ [B x]) v' wb w6) (hbase : base ≤ wb.heap.size) :
    FI base gO n ns (k + 1) cx v' (addG G k w6.heap.size) ((w6.alloc (.cells (row (zeros ns)) 5)).setCell ⟨gO, k, none⟩ (.slice (some ⟨w6.heap.size, 0, none⟩) ns ns)) := by
  obtain ⟨cur, c1, c2, c3, c4⟩ := h.outer
  have hK : Kp (fun b => v8.ownBlock = some b) wb w6 := (Kp.refl _ _).grown hp.2.1 (fun _ e => .inl e)
  have hgo6 : Blk w6 gO 22 cur := hK.blk c1 (own_ne (e := 5) h.own c1 (by decide))
  have hr6 : ∀ i, i < k → Blk w6 (G i) 5 (row (zeros ns)) := fun i hi => hK.blk (h.rows i hi) (h.dis i hi)
  have hgl : gO < w6.heap.size := hgo6.lt
  have hK2 : Kp (· = gO) w6 ((w6.alloc (.cells (row (zeros ns)) 5)).setCell ⟨gO, k, none⟩ (.slice (some ⟨w6.heap.size, 0, none⟩) ns ns)) := Kp.set (S := (· = gO)) ((Kp.refl _ _).alloc _) (.inl rfl) _
  have hs6 : base ≤ w6.heap.size := Nat.le_trans hbase hK.size
  refine ⟨?_, ⟨_, (hgo6.alloc _).set_ k _, by simp [c2], fun i hi => ?_, fun i h1 h2 => ?_⟩, fun i hi => ?_, fun i j hi hj hne => ?_, fun i hi => ?_, ⟨h.old.1, fun i hi => ?_⟩, fun i hi => ?_⟩
  · refine Kp.own hK2 ?_ (fun g hg e => ?_)
    · have := hp.1
      rw [← hx]
      simpa using this
    · subst e
      exact own_ne (e := 5) hp.1 hgo6 (by decide) hg
  · rw [Array.getElem?_setIfInBounds]
    by_cases e : k = i
    · subst e; rw [if_pos rfl, if_pos (by omega), addG_hi (by omega)]
    · rw [if_neg e, addG_lo (by omega)]; exact c3 i (by omega)
  · rw [Array.getElem?_setIfInBounds, if_neg (by omega)]; exact c4 i (by omega) h2
  · by_cases e : i < k
    · rw [addG_lo e]; exact ((hr6 i e).alloc _).far (h.far i e) _
    · rw [addG_hi e]; exact (Blk.new w6 _ _).far (by show w6.heap.size ≠ gO; omega) _
  · by_cases e1 : i < k <;> by_cases e2 : j < k
    · rw [addG_lo e1, addG_lo e2]; exact h.inj i j e1 e2 hne
    · rw [addG_lo e1, addG_hi e2]; have := (hr6 i e1).lt; omega
    · rw [addG_hi e1, addG_lo e2]; have := (hr6 j e2).lt; omega
    · omega
  · by_cases e : i < k
    · rw [addG_lo e]; exact h.far i e
    · rw [addG_hi e]; omega
  · by_cases e : i < k
    · rw [addG_lo e]; exact h.old.2 i e
    · rw [addG_hi e]; exact hs6
  · by_cases e : i < k
    · rw [addG_lo e]
      intro e'
      rcases hp.2.2 with h1 | h1
      · exact h.dis i e (h1.symm.trans e')
      · rw [h1] at e'
        injection e' with e'
        have := (h.rows i e).lt
        omega
    · rw [addG_hi e]
      intro e'
      have := (hp.1.lt _ e').2
      omega

/-- The points of byte b. -/
def fiX (l : List (Int × List UInt8)) : List UInt8 := 0 :: coX l
def fiY (s : List UInt8) (l : List (Int × List UInt8)) (b : Nat) : List UInt8 := gB s b :: coY l b
def fiP (s : List UInt8) (l : List (Int × List UInt8)) (b : Nat) : List UInt8 := Py.itP (fiX l) (fiY s l b)
/-- The coefficients when b bytes are done, and of byte b those below i. -/
def fiT (s : List UInt8) (l : List (Int × List UInt8)) (b i : Nat) : List (List UInt8) :=
  (List.range l.length).map fun r => tab s.length fun j => if j < b then gB (fiP s l j) (r + 1) else if j = b ∧ r + 1 < i then gB (fiP s l b) (r + 1) else 0
/-- The coefficients that fit. -/
def fiM (s : List UInt8) (l : List (Int × List UInt8)) : List (List UInt8) := (List.range l.length).map fun r => tab s.length fun j => gB (fiP s l j) (r + 1)
theorem fiT_length (s : List UInt8) (l : List (Int × List UInt8)) (b i : Nat) : (fiT s l b i).length = l.length := by simp [fiT]
theorem fiT_get (s : List UInt8) (l : List (Int × List UInt8)) (b i r : Nat) (h : r < l.length) : gR (fiT s l b i) r = tab s.length fun j => if j < b then gB (fiP s l j) (r + 1) else if j = b ∧ r + 1 < i then gB (fiP s l b) (r + 1) else 0 := by
  rw [gR_eq (by rw [fiT_length]; exact h)]; simp [fiT]
theorem gR_ext {a b : List (List UInt8)} (hl : a.length = b.length) (h : ∀ k, k < a.length → gR a k = gR b k) : a = b := by
  apply List.ext_getElem hl
  intro i h1 h2
  have := h i h1
  rwa [gR_eq h1, gR_eq h2] at this
theorem fiT_start (s : List UInt8) (l : List (Int × List UInt8)) : zmat l.length s.length = fiT s l 0 1 :=
  gR_ext (by rw [fiT_length]; simp [zmat]) (fun r hr => by
    have hr' : r < l.length := by simpa [zmat] using hr
    rw [zmat_get hr', fiT_get _ _ _ _ _ hr']
    refine gB_ext (by rw [zeros_length, tab_length]) (fun j hj => ?_)
    rw [zeros_length] at hj
    rw [gB_zeros, gB_tab _ hj, if_neg (by omega), if_neg (by omega)])
theorem fiT_put (s : List UInt8) (l : List (Int × List UInt8)) (b r : Nat) (hr : r < l.length) (hb : b < s.length) : (fiT s l b (r + 1)).set r ((gR (fiT s l b (r + 1)) r).set b (gB (fiP s l b) (r + 1))) = fiT s l b (r + 2) :=
  gR_ext (by rw [List.length_set, fiT_length, fiT_length]) (fun q hq => by
    rw [List.length_set, fiT_length] at hq
    by_cases e : r = q
    · subst e
      rw [gR_set_self (by rw [fiT_length]; exact hr), fiT_get _ _ _ _ _ hr, fiT_get _ _ _ _ _ hr]
      refine gB_ext (by rw [List.length_set, tab_length, tab_length]) (fun j hj => ?_)
      rw [List.length_set, tab_length] at hj
      rw [gB_set _ (by rw [tab_length]; exact hb), gB_tab _ hj, gB_tab _ hj]
      by_cases ej : j = b
      · subst ej; rw [if_pos rfl, if_neg (by omega), if_pos ⟨rfl, by omega⟩]
      · rw [if_neg ej]
        by_cases hjb : j < b
        · rw [if_pos hjb, if_pos hjb]
        · rw [if_neg hjb, if_neg hjb, if_neg (by omega), if_neg (by omega)]
    · rw [gR_set_ne e, fiT_get _ _ _ _ _ hq, fiT_get _ _ _ _ _ hq]
      refine tab_congr fun j _ => ?_
      by_cases hjb : j < b
      · rw [if_pos hjb, if_pos hjb]
      · rw [if_neg hjb, if_neg hjb]
        by_cases h1 : j = b ∧ q + 1 < r + 1
        · rw [if_pos h1, if_pos ⟨h1.1, by omega⟩]
        · rw [if_neg h1, if_neg (by omega)])
theorem fiT_next (s : List UInt8) (l : List (Int × List UInt8)) (b i : Nat) (hi : (fiP s l b).length ≤ i) : fiT s l b i = fiT s l (b + 1) 1 :=
  gR_ext (by rw [fiT_length, fiT_length]) (fun r hr => by
    rw [fiT_length] at hr
    rw [fiT_get _ _ _ _ _ hr, fiT_get _ _ _ _ _ hr]
    refine tab_congr fun j _ => ?_
    by_cases hjb : j < b
    · rw [if_pos hjb, if_pos (by omega)]
    · rw [if_neg hjb]
      by_cases e : j = b
      · subst e
        rw [if_pos (show j < j + 1 by omega)]
        by_cases h1 : r + 1 < i
        · rw [if_pos ⟨rfl, h1⟩]
        · rw [if_neg (by omega), gB_ge (by omega)]
      · rw [if_neg (by omega), if_neg (by omega), if_neg (by omega)])
theorem fiT_end (s : List UInt8) (l : List (Int × List UInt8)) : fiT s l s.length 1 = fiM s l := by
  unfold fiT fiM
  apply List.map_congr_left
  intro r _
  exact tab_congr fun j hj => by rw [if_pos hj]
theorem fiP_len (s : List UInt8) (l : List (Int × List UInt8)) (b : Nat) : (fiP s l b).length ≤ l.length + 1 := by
  rw [fiP, Py.itP, Py.trim_length]
  have h1 := Py.tl_le (Py.itK (fiX l) (fiY s l b) (fiX l).length).1
  rw [Py.itK_length1] at h1
  have h2 : (fiX l).length = l.length + 1 := by simp [fiX, coX, tab_length]
  omega
theorem fiX_dst {l : List (Int × List UInt8)} (hX : ∀ k, k < l.length → 1 ≤ (gS l k).1 ∧ (gS l k).1 ≤ 255) (hd : ∀ i j, j < i → i < l.length → (gS l j).1 ≠ (gS l i).1) : Py.Dst (fiX l) := by
  intro i j hij hj
  obtain ⟨j, rfl⟩ : ∃ q, j = q + 1 := ⟨j - 1, by omega⟩
  have hjl : j < l.length := by simp [fiX, coX, tab_length] at hj; omega
  cases i with
  | zero =>
    rw [fiX, gB_cons_zero, gB_cons_succ, coX, gB_tab _ hjl]
    intro e
    have h1 := hX j hjl
    have h2 := gX_eq (l := l) (k := j) (by omega) (by omega)
    rw [← e] at h2
    have h3 : bv 0 = 0 := rfl
    omega
  | succ i =>
    rw [fiX, gB_cons_succ, gB_cons_succ]
    exact coX_dst hX hd i j (by omega) (by rw [coX, tab_length]; exact hjl)

def FitRet (m : List (List UInt8)) (ns : Nat) (w : World) (e : Ending) (w' : World) : Prop := ∃ (gO : Nat) (G : Nat → Nat), e = .returned (.tuple #[.slice (some ⟨gO, 0, none⟩) m.length m.length, .int .i64 0]) ∧ Tab w' w.heap.size gO m.length m.length ns G m ∧ Below w.heap.size w w'
end Go.Proofs.Ytakedococfklgaa
/- What the examples of the chapter come to, and shares that a literal builds. -/
namespace Go.Proofs.Ytakedococfklgaa
open Go.RowKit Gf

namespace Text
variable {P : Program} {ops : Array Oper} {Q : Exit → Act → World → Prop} {S : World → Prop} {a : Act} {w : World} {t : BT} {i : Nat}
theorem beffw {o : Oper} (ho : ops[i]? = some o) (hw : Region.wanted o (yielded ops a.tmps) = true) (h : ∀ K : Act → World → Prop, (∀ a w, S w → wpBT P ops Q S t a w → K a w) → o.wp P a w K NoQ) : wpBT P ops Q S (.eff i t) a w := by
  have key : wpOp P ops Q i (fun a' w' => S w' ∧ wpBT P ops Q S t a' w') a w := by
    unfold wpOp
    simp only [ho]
    rw [if_pos hw]
    exact .inl (wp_of_noQ (h _ fun _ _ h1 h2 => ⟨h1, h2⟩))
  with_unfolding_all exact key
end Text

theorem ex_splE : splE [7] [[2]] [1, 2, 3] = 0 := by decide +kernel
theorem ex_splL : splL [7] [[2]] [1, 2, 3] = [(1, [5]), (2, [3]), (3, [1])] := by decide +kernel
theorem ex_ck : ckE [(1, [5]), (2, [3])] 2 = 0 := by decide +kernel
theorem ex_cb : cbL [(1, [5]), (2, [3])] 2 0 = [7] := by decide +kernel
theorem ex_exE : exE [(1, [5]), (2, [3])] 2 3 = 0 := by decide +kernel
theorem ex_exX : exX [(1, [5]), (2, [3])] 2 3 = 3 := by decide +kernel
theorem ex_exL : exL [(1, [5]), (2, [3])] 2 3 = [1] := by decide +kernel
theorem ex_shW : shB [(1, [1]), (2, [3]), (3, [1]), (4, [15])] = true := by decide +kernel
theorem ex_wrK : wrK [(1, [1]), (2, [3]), (3, [1]), (4, [15])] 2 1 1 = some [true, false, false, false] := by decide +kernel
theorem ex_wr : wrF [(1, [1]), (2, [3]), (3, [1]), (4, [15])] 2 = some [1] := by
  have h1 : ((([(1, [1]), (2, [3]), (3, [1]), (4, [15])] : List (Int × List UInt8)).length - 2) / 2) = 1 := by decide
  have h2 : (gS ([(1, [1]), (2, [3]), (3, [1]), (4, [15])] : List (Int × List UInt8)) 0).2.length = 1 := by decide
  unfold wrF
  rw [h1, h2, ex_wrK]
  have h3 : reK ([(1, [1]), (2, [3]), (3, [1]), (4, [15])] : List (Int × List UInt8)) [true, false, false, false] 4 = [1] := by decide
  show (if 1 < (reK _ _ 4).length then none else some (isort (reK _ _ 4))) = _
  rw [h3]
  simp [isort]
theorem ex_shF : shB [(1, [5])] = true := by decide +kernel
theorem ex_fi : fiM [9] [(1, [5])] = [[12]] := by decide +kernel
theorem ex_ctE : ctE 1 3 = 0 := by decide +kernel
theorem ex_ctV : ctV 1 3 false = 65536 := by decide +kernel
theorem ex_ck0 : ckE [] 2 = 10 := by decide +kernel
theorem ex_cb0 : cbL [] 2 0 = [] := by decide +kernel

theorem ss_lit {w : World} {g n : Nat} {cs : Array Value} {l : List (Int × List UInt8)} (h : Blk w g 33 cs) (hn : l.length = n) (h64 : n ≤ 64) (hr : ∀ k, k < n → ∃ A n' c', cs[k * 2]? = some (.int .i64 (gS l k).1) ∧ cs[k * 2 + 1]? = some (.slice A n' c') ∧ BS w A n' c' (gS l k).2) : SS w (some ⟨g, 0, none⟩) n n l :=
  ⟨hn, Nat.le_refl _, by unfold lim; omega, fun k hk => by
    obtain ⟨A, n', c', h1, h2, h3⟩ := hr k hk
    exact ⟨g, 0, A, n', c', rfl, by rw [h.cell, Nat.zero_add]; exact h1, by rw [h.cell, Nat.zero_add]; exact h2, h3⟩⟩
theorem bs1 {w : World} {g : Nat} {y : UInt8} (h : Blk w g 5 (row [y])) : BS w (some ⟨g, 0, none⟩) 1 1 [y] := BS.of_blk h rfl (by decide)
theorem ss1 {w : World} {g : Nat} {x : Int} {l : List UInt8} {A : Option Addr} {n c : Nat} (h : Blk w g 33 #[.int .i64 x, .slice A n c]) (h1 : BS w A n c l) : SS w (some ⟨g, 0, none⟩) 1 1 [(x, l)] :=
  ss_lit h rfl (by omega) (fun k hk => match k, hk with
    | 0, _ => ⟨_, _, _, rfl, rfl, h1⟩)
theorem ss2 {w : World} {g g1 g2 : Nat} {x1 x2 : Int} {y1 y2 : UInt8} (h : Blk w g 33 #[.int .i64 x1, .slice (some ⟨g1, 0, none⟩) 1 1, .int .i64 x2, .slice (some ⟨g2, 0, none⟩) 1 1]) (h1 : Blk w g1 5 (row [y1])) (h2 : Blk w g2 5 (row [y2])) : SS w (some ⟨g, 0, none⟩) 2 2 [(x1, [y1]), (x2, [y2])] :=
  ss_lit h rfl (by omega) (fun k hk => match k, hk with
    | 0, _ => ⟨_, _, _, rfl, rfl, bs1 h1⟩
    | 1, _ => ⟨_, _, _, rfl, rfl, bs1 h2⟩)
theorem ss3 {w : World} {g g1 g2 g3 : Nat} {x1 x2 x3 : Int} {y1 y2 y3 : UInt8} (h : Blk w g 33 #[.int .i64 x1, .slice (some ⟨g1, 0, none⟩) 1 1, .int .i64 x2, .slice (some ⟨g2, 0, none⟩) 1 1, .int .i64 x3, .slice (some ⟨g3, 0, none⟩) 1 1]) (h1 : Blk w g1 5 (row [y1])) (h2 : Blk w g2 5 (row [y2])) (h3 : Blk w g3 5 (row [y3])) : SS w (some ⟨g, 0, none⟩) 3 3 [(x1, [y1]), (x2, [y2]), (x3, [y3])] :=
  ss_lit h rfl (by omega) (fun k hk => match k, hk with
    | 0, _ => ⟨_, _, _, rfl, rfl, bs1 h1⟩
    | 1, _ => ⟨_, _, _, rfl, rfl, bs1 h2⟩
    | 2, _ => ⟨_, _, _, rfl, rfl, bs1 h3⟩)
theorem ss4 {w : World} {g g1 g2 g3 g4 : Nat} {x1 x2 x3 x4 : Int} {y1 y2 y3 y4 : UInt8} (h : Blk w g 33 #[.int .i64 x1, .slice (some ⟨g1, 0, none⟩) 1 1, .int .i64 x2, .slice (some ⟨g2, 0, none⟩) 1 1, .int .i64 x3, .slice (some ⟨g3, 0, none⟩) 1 1, .int .i64 x4, .slice (some ⟨g4, 0, none⟩) 1 1]) (h1 : Blk w g1 5 (row [y1])) (h2 : Blk w g2 5 (row [y2])) (h3 : Blk w g3 5 (row [y3])) (h4 : Blk w g4 5 (row [y4])) : SS w (some ⟨g, 0, none⟩) 4 4 [(x1, [y1]), (x2, [y2]), (x3, [y3]), (x4, [y4])] :=
  ss_lit h rfl (by omega) (fun k hk => match k, hk with
    | 0, _ => ⟨_, _, _, rfl, rfl, bs1 h1⟩
    | 1, _ => ⟨_, _, _, rfl, rfl, bs1 h2⟩
    | 2, _ => ⟨_, _, _, rfl, rfl, bs1 h3⟩
    | 3, _ => ⟨_, _, _, rfl, rfl, bs1 h4⟩)
theorem is_lit {w : World} {g n : Nat} {z : List Int} (h : Blk w g 3 ((z.map (Value.int .i64)).toArray)) (hz : z.length = n) (hn : n ≤ 64) : IS w (some ⟨g, 0, none⟩) n n z :=
  ⟨hz, Nat.le_refl _, by unfold lim; omega, fun k hk => ⟨g, 0, rfl, by
    rw [h.cell, Nat.zero_add]
    show _ = some (Value.int .i64 (gI z k))
    rw [gI_eq (by omega)]
    simp [show k < z.length by omega]⟩⟩
theorem ms1 {w : World} {g g1 : Nat} {y : UInt8} (h : Blk w g 22 #[.slice (some ⟨g1, 0, none⟩) 1 1]) (h1 : Blk w g1 5 (row [y])) : MS w (some ⟨g, 0, none⟩) 1 1 [[y]] :=
  ⟨rfl, Nat.le_refl _, by decide, fun k hk => by
    obtain rfl : k = 0 := by omega
    exact ⟨g, 0, _, 1, 1, rfl, by rw [h.cell]; rfl, bs1 h1⟩⟩
theorem blk_at {w : World} {g : Nat} (hg : w.heap.size = g) (t : TypeId) (cs : Array Value) : Blk (w.alloc (.cells cs t)) g t cs := by subst hg; exact Blk.new w t cs
theorem kb1 (w : World) (o : Obj) : Below w.heap.size w (w.alloc o) := (Below.refl _ _).alloc (Nat.le_refl _) _
end Go.Proofs.Ytakedococfklgaa
/- Contract of shamir.Fits: the walk where it returns coefficients. -/
namespace Go.Proofs.Ytakedococfklgaa
open Go.RowKit Gf

attribute [local go_sem] Gf.bv_toNat Gf.bv_wrap

theorem alloc_setCell' (w : World) (o : Obj) (p : Addr) (v : Value) (h : p.block < w.heap.size) : (w.alloc o).setCell p v = (w.setCell p v).alloc o := by
  simp only [World.setCell, World.alloc]
  congr 1
  apply Array.ext (by simp)
  intro i h1 h2
  simp only [Array.getElem_modify, Array.getElem_push]
  by_cases e : p.block = i
  · subst e; simp [h]
  · simp [e]

set_option maxRecDepth 100000 in
set_option maxHeartbeats 4000000 in
theorem fits_ok (As A : Option Addr) (ns cs n c t : Nat) (s : List UInt8) (l : List (Int × List UInt8)) (w : World) (hs : BS w As ns cs s) (h : SS w A n c l) (hsh : shB l = true) (ht1 : 1 ≤ t) (ht2 : t ≤ 16) (hnt : n + 1 = t) (hns : ns ≤ 1024) (hq : Eql l ns) :
    Calls Try.prog 24 #[.slice As ns cs, .slice A n c, .int .i64 (t : Int)] w (FitRet (fiM s l) ns w) := by
  obtain ⟨sp1, sp2, sp3, sp4, sp5⟩ := shB_spec hsh
  have HLS := Lib.hid hs.1
  have HL := Lib.hid h.1
  have H := Lib.hid h
  have HS := Lib.hid hs
  have HQ := Lib.hid hq
  have HXR : Hid (∀ k, k < n → (gS l k).1 = bv (gX l k)) := Lib.hid (fun k hk => by have := sp4 k (by rw [h.1]; exact hk); exact gX_eq (by omega) (by omega))
  have HDS : Hid (Py.Dst (fiX l)) := Lib.hid (fiX_dst sp4 sp5)
  have HSH := Lib.hid hsh
  have hv : vT (t : Int) = true := vT_iff.2 ⟨by omega, by omega⟩
  have hn15 : n ≤ 15 := by omega
  have sm : (t : Int) - 1 = (n : Int) := by omega
  have q1 : ((n : Int) != (t : Int) - 1) = false := by simp; omega
  have q2 : decide ((1024 : Int) < (ns : Int)) = false := by simp; omega
  have hmk := make_rows n (by omega)
  have hmb := make_bytes ns (by omega)
  have HNT := Lib.hid hnt
  clear h hs hq sp1 sp2 sp3 sp4 sp5 hsh hnt
  go_enter Try.func24, Try.ntmps24
  go_wp2_with fail
  refine (validShares_any _ _ _ _ _ H.out).mono ?_
  rintro e w1 ⟨rfl, hb1⟩
  have HB1 := Lib.hid hb1
  clear hb1
  rw [HSH.out]
  go_wp2_with fail
  refine (validT_any _ _).mono ?_
  rintro e w' ⟨rfl, rfl⟩
  rw [hv]
  go_wp2_with fail
  clear q1 q2 hv sm
  obtain ⟨w2, hw2⟩ : ∃ w2, w2 = (w1.alloc (.cells #[.int .u8 0] 5)).alloc (.cells (Array.replicate n (.slice none 0 0)) 22) := ⟨_, rfl⟩
  obtain ⟨gO, hgO⟩ : ∃ g, g = w1.heap.size + 1 := ⟨_, rfl⟩
  have hb2 : Below w1.heap.size w1 w2 := by rw [hw2]; exact ((Below.refl _ _).alloc (Nat.le_refl _) _).alloc (by simp) _
  obtain ⟨cx, hcx⟩ : ∃ cx, cx = coX l := ⟨_, rfl⟩
  have HFI0 : Hid (FI w1.heap.size gO n ns 0 cx (.slice (some ⟨w1.heap.size, 0, none⟩) 1 1) (fun _ => 0) w2) := Lib.hid ⟨by
      rw [hw2]
      exact Kp.own (S := fun _ => False) ((Kp.refl _ _).alloc _) (own_one w1 0) (fun _ _ => id), ⟨_, by
      rw [hw2, hgO]
      have := Blk.new (w1.alloc (.cells #[.int .u8 0] 5)) 22 (Array.replicate n (.slice none 0 0))
      rw [World.size_alloc] at this
      exact this, by simp, fun i hi => absurd hi (by omega), fun i _ hi => by simp [hi]⟩, fun i hi => absurd hi (by omega), fun i _ hi => absurd hi (by omega), fun i hi => absurd hi (by omega), ⟨by omega, fun i hi => absurd hi (by omega)⟩, fun i hi => absurd hi (by omega)⟩
  have HCX0 : Hid (∀ k, k < n → cx.take k ++ [gX l k] = cx.take (k + 1)) := Lib.hid (fun k hk => by
    have h1 : k < cx.length := by rw [hcx, coX, tab_length, HL.out]; exact hk
    rw [List.take_succ_eq_append_getElem h1, ← gB_eq h1, hcx, coX, gB_tab _ (by rw [HL.out]; exact hk)])
  have HCXE := Lib.hid hcx
  have HGO : Hid (w1.heap.size ≤ gO) := Lib.hid (by omega)
  rw [← hw2, ← hgO]
  have HB2 := Lib.hid hb2
  clear hw2 hgO hcx hb2 hmk
  go_loopw [8, 46] (fun v i wr => ∃ (k : Nat) (A8 : Option Addr) (c8 : Nat) (G : Nat → Nat), k ≤ n ∧ i = .int .i64 (k : Int) ∧ v = .slice A8 (k + 1) c8 ∧ Hid (FI w1.heap.size gO n ns k cx v G wr) ∧ Hid (Below w1.heap.size w1 wr)) (fun _ i _ => n - (intOf i).toNat)
  case atStart => exact ⟨0, _, 1, _, by omega, rfl, rfl, HFI0, HB2⟩
  case round =>
    obtain ⟨k, A8, c8, G, hk, rfl, rfl, hfi, hb⟩ := hrel
    by_cases hkn : k < n
    · obtain ⟨g', o', Ad, nd, cd, e', y1, y2, y3⟩ := H.out.at_ (below_then HB1.out hb.out) hkn
      subst e'
      rw [HXR.out k hkn] at y1
      obtain rfl : nd = ns := by rw [← y3.1]; exact HQ.out k (by rw [HL.out]; exact hkn)
      obtain ⟨x, hx⟩ : ∃ x, x = gX l k := ⟨_, rfl⟩
      have HX := Lib.hid (HCX0.out k hkn)
      rw [← hx] at y1 HX
      clear hx y3
      obtain ⟨ws, hws⟩ : ∃ ws, ws = (wr.alloc (.cells #[.int .i64 (bv x), .slice Ad nd cd] 33)).alloc (.cells #[B x] 5) := ⟨_, rfl⟩
      have hbs : Below wr.heap.size wr ws := by rw [hws]; exact ((Below.refl _ _).alloc (Nat.le_refl _) _).alloc (by simp) _
      have HFS := Lib.hid (hfi.out.kept hbs)
      have HBS := Lib.hid (below_then hb.out hbs)
      have HKS : Hid (Blk ws (wr.heap.size + 1) 5 #[B x]) := Lib.hid (by
        rw [hws]
        have := Blk.new (wr.alloc (.cells #[.int .i64 (bv x), .slice Ad nd cd] 33)) 5 #[B x]
        rw [World.size_alloc] at this
        exact this)
      have HWS := Lib.hid hws
      clear hbs hws hfi hb
      have q3 : ((nd : Int) != (nd : Int)) = false := by simp
      go_wp2_with (first
        | (at_builtin; rw [← HWS.out]; refine wpList_app1 ws rfl (.tmp 57) (.tmp 61) 22 5 (.int .u8 0) 1 Try.underlying22 infoU8 rfl rfl w1.heap.size (.slice A8 (k + 1) c8) (k + 1) ((0 :: cx.take k).map B) rfl HFS.out.own (wr.heap.size + 1) 1 5 (B x) rfl HKS.out rfl (by omega) (by omega) HBS.out.size ?_; intro v6 w6 hp6; obtain ⟨m6, g6, cap6, hm6, rfl⟩ := own_form (by omega) hp6.1; (have HFF := Lib.hid (HFS.out.step hkn HX.out hp6 HBS.out.size)); (have HB6 : Hid (Below w1.heap.size w1 w6) := Lib.hid (HBS.out.grown hp6.2.1 HBS.out.size (fun b hb' => own_base HFS.out.own b hb'))); (have HM6 : Hid (m6 = k + 1 + 1) := Lib.hid hm6); (obtain ⟨cur, c1, c2, c3, c4⟩ := HFS.out.outer); (have hK6 : Kp (fun b => (Value.slice A8 (k + 1) c8).ownBlock = some b) ws w6 := (Kp.refl _ _).grown hp6.2.1 (fun _ e => .inl e)); (have hk6 := hK6.blk c1 (own_ne (e := 5) HFS.out.own c1 (by decide))); (have d1 : w6.cell? ⟨gO, k, none⟩ = some (.slice none 0 0) := by rw [hk6.cell]; exact c4 k (by omega) hkn); (have f1 := hk6.frozen k); (have d1' : (w6.alloc (.cells (row (zeros nd)) 5)).cell? ⟨gO, k, none⟩ = some (.slice none 0 0) := cell_kept ((Below.refl _ _).alloc (Nat.le_refl _) _) d1); (have f1' := (hk6.alloc (.cells (row (zeros nd)) 5)).frozen k); (have hgl6 : gO < w6.heap.size := hk6.lt); clear hp6 hm6 c1 c2 c3 c4 hK6 hk6))
      have HBX : Hid (Below w1.heap.size w1 ((w6.alloc (.cells (row (zeros nd)) 5)).setCell ⟨gO, k, none⟩ (.slice (some ⟨w6.heap.size, 0, none⟩) nd nd))) := Lib.hid ((HB6.out.alloc HB6.out.size _).setCell HGO.out _)
      rw [alloc_setCell' w6 _ ⟨gO, k, none⟩ _ hgl6] at HFF HBX
      have hm6 := HM6.out
      subst hm6
      go_roundw
      case rel => exact ⟨k + 1, _, cap6, _, by omega, by go_num, rfl, HFF, HBX⟩
      case measure => simp [intOf]; omega
    · obtain rfl : k = n := by omega
      obtain ⟨w3, rfl⟩ : ∃ w3, w3 = wr := ⟨_, rfl⟩
      have HTAB : Hid (Tab w3 w1.heap.size gO k k ns G (fiT s l 0 1)) := Lib.hid (by
        obtain ⟨cur, c1, c2, c3, c4⟩ := hfi.out.outer
        have e1 := fiT_start s l
        rw [HL.out, HLS.out] at e1
        rw [← e1]
        exact ⟨by simp [zmat], zmat_rect k ns, ⟨cur, c1, Nat.le_refl _, c2, c3⟩, fun i hi => by rw [zmat_get hi]; exact hfi.out.rows i hi, hfi.out.inj, hfi.out.far, hfi.out.old⟩)
      obtain ⟨A8', c8', e8, hx8⟩ := BS.of_own hfi.out.own (by unfold lim; omega)
      injection e8 with e81 e82 e83
      subst e81 e83
      have HXS : Hid (BS w3 A8 (k + 1) c8 (fiX l)) := Lib.hid (by
        rw [List.take_of_length_le (by rw [HCXE.out, coX, tab_length, HL.out]; exact Nat.le_refl _), HCXE.out] at hx8
        exact hx8)
      have HXF : Hid (AtB A8 (fun b => ¬ ∃ i, i < k ∧ b = G i)) := Lib.hid (fun a e ⟨i, hi, hbi⟩ => hfi.out.dis i hi (by subst e; rw [← hbi]; rfl))
      have hgk : ∀ i, i < k → G i < w3.heap.size := fun i hi => (hfi.out.rows i hi).lt
      have HGK := Lib.hid hgk
      clear hfi hx8 e82 hmb hgk
      go_wp2_with fail
      go_loopw [72] (fun i wr => ∃ b : Nat, b ≤ ns ∧ i = .int .i64 (b : Int) ∧ Hid (Tab wr w1.heap.size gO k k ns G (fiT s l b 1)) ∧ Hid (Kp (fun b => ∃ i, i < k ∧ b = G i) w3 wr)) (fun i _ => ns - (intOf i).toNat)
      case atStart => exact ⟨0, by omega, rfl, HTAB, Lib.hid (Kp.refl _ _)⟩
      case round =>
        obtain ⟨b, hbn, rfl, htab, hkp⟩ := hrel
        have hbw : Below w1.heap.size w1 wr := hb.out.trans (hkp.out.below hb.out.size (fun q ⟨i, hi, e⟩ => by rw [e]; exact HTAB.out.old.2 i hi))
        by_cases hbl : b < ns
        · obtain ⟨gs, os, rfl, hcs⟩ := HS.out.at_ (below_then HB1.out hbw) hbl
          obtain ⟨w4, rfl⟩ : ∃ w4, w4 = wr := ⟨_, rfl⟩
          have HBW := Lib.hid hbw
          obtain ⟨sb, hsb⟩ : ∃ x, x = gB s b := ⟨_, rfl⟩
          rw [← hsb] at hcs
          have HSB := Lib.hid hsb
          clear hbw hsb
          go_wp2_with fail
          have HOY0 : Hid ((w4.alloc (.cells #[B sb] 5)).ownsRow w4.heap.size 5 1 (.slice (some ⟨w4.heap.size, 0, none⟩) 1 1) 1 ((sb :: (coY l b).take 0).map B)) := Lib.hid (own_one w4 sb)
          have HBY0 : Hid (Below w4.heap.size w4 (w4.alloc (.cells #[B sb] 5))) := Lib.hid ((Below.refl _ _).alloc (Nat.le_refl _) _)
          obtain ⟨cy, hcy⟩ : ∃ cy, cy = coY l b := ⟨_, rfl⟩
          have HCY0 : Hid (∀ q, q < k → cy.take q ++ [gB (gS l q).2 b] = cy.take (q + 1)) := Lib.hid (fun q hq => by
            have h1 : q < cy.length := by rw [hcy, coY, tab_length, HL.out]; exact hq
            rw [List.take_succ_eq_append_getElem h1, ← gB_eq h1, hcy, coY, gB_tab _ (by rw [HL.out]; exact hq)])
          have HCYE := Lib.hid hcy
          rw [← hcy] at HOY0
          clear hcs hcy
          go_loopw [14, 81] (fun v i wr => ∃ (q : Nat) (A9 : Option Addr) (c9 : Nat), q ≤ k ∧ i = .int .i64 (q : Int) ∧ v = .slice A9 (q + 1) c9 ∧ Hid (wr.ownsRow w4.heap.size 5 1 v (q + 1) ((sb :: cy.take q).map B)) ∧ Hid (Below w4.heap.size w4 wr)) (fun _ i _ => k - (intOf i).toNat)
          case atStart => exact ⟨0, _, 1, by omega, rfl, rfl, HOY0, HBY0⟩
          case round =>
            obtain ⟨q, A9, c9, hqk, rfl, rfl, hown, hby⟩ := hrel
            by_cases hqn : q < k
            · obtain ⟨g', o', Ad, nd, cd, e', y1, y2, y3⟩ := H.out.at_ (below_then HB1.out (below_then HBW.out hby.out)) hqn
              subst e'
              obtain rfl : nd = ns := by rw [← y3.1]; exact HQ.out q (by rw [HL.out]; exact hqn)
              obtain ⟨gd, od, rfl, y4⟩ := y3.at_ (Below.refl _ _) hbl
              obtain ⟨y, hy⟩ : ∃ y, y = gB (gS l q).2 b := ⟨_, rfl⟩
              have HY := Lib.hid (HCY0.out q hqn)
              rw [← hy] at y4 HY
              clear hy y3
              obtain ⟨wt, hwt⟩ : ∃ wt, wt = wr.alloc (.cells #[.int .i64 (gS l q).1, .slice (some ⟨gd, od, none⟩) nd cd] 33) := ⟨_, rfl⟩
              have hbt : Below wr.heap.size wr wt := by rw [hwt]; exact (Below.refl _ _).alloc (Nat.le_refl _) _
              have y4' := cell_kept hbt y4
              rw [hwt] at y4'
              obtain ⟨ws, hws⟩ : ∃ ws, ws = wt.alloc (.cells #[B y] 5) := ⟨_, rfl⟩
              have hbs : Below wr.heap.size wr ws := by rw [hws]; exact hbt.alloc hbt.size _
              have HOS := Lib.hid (Kp.own (S := fun _ => False) (Kp.of_below hbs) hown.out (fun _ _ => id))
              have HBS := Lib.hid (below_then hby.out hbs)
              have HKS : Hid (Blk ws (wr.heap.size + 1) 5 #[B y]) := Lib.hid (by
                rw [hws, hwt]
                have := Blk.new (wr.alloc (.cells #[.int .i64 (gS l q).1, .slice (some ⟨gd, od, none⟩) nd cd] 33)) 5 #[B y]
                rw [World.size_alloc] at this
                exact this)
              rw [hwt] at hws
              have HWS := Lib.hid hws
              clear hbs hws hwt hbt hown hby y4
              go_wp2_with (first
                | (at_builtin; rw [← HWS.out]; refine wpList_app1 ws rfl (.tmp 85) (.tmp 91) 22 5 (.int .u8 0) 1 Try.underlying22 infoU8 rfl rfl w4.heap.size (.slice A9 (q + 1) c9) (q + 1) ((sb :: cy.take q).map B) rfl HOS.out (wr.heap.size + 1) 1 5 (B y) rfl HKS.out rfl (by omega) (by omega) HBS.out.size ?_; intro v6 w6 hp6))
              obtain ⟨m6, g6, cap6, hm6, rfl⟩ := own_form (by omega) hp6.1
              have HO6 : Hid (w6.ownsRow w4.heap.size 5 1 (.slice (some ⟨g6, 0, none⟩) (q + 1 + 1) cap6) (q + 1 + 1) ((sb :: cy.take (q + 1)).map B)) := Lib.hid (by
                have h1 := hp6.1
                rw [hm6] at h1
                rw [← HY.out]
                simpa using h1)
              have HB6 : Hid (Below w4.heap.size w4 w6) := Lib.hid (HBS.out.grown hp6.2.1 HBS.out.size (fun b hb' => own_base HOS.out b hb'))
              subst hm6
              clear hp6
              go_roundw
              case rel => exact ⟨q + 1, _, cap6, by omega, by go_num, rfl, HO6, HB6⟩
              case measure => simp [intOf]; omega
            · obtain rfl : q = k := by omega
              obtain ⟨A9', c9', e9, hy9⟩ := BS.of_own hown.out (by unfold lim; omega)
              injection e9 with e91 e92 e93
              subst e91 e93
              have HYS : Hid (BS wr A9 (q + 1) c9 (fiY s l b)) := Lib.hid (by
                rw [List.take_of_length_le (by rw [HCYE.out, coY, tab_length, HL.out]; exact Nat.le_refl _), HCYE.out, HSB.out] at hy9
                exact hy9)
              have HXW : Hid (BS wr A8 (q + 1) c8 (fiX l)) := Lib.hid ((far_kept HXS.out hkp.out HXF.out).kept hby.out)
              clear hy9 e92
              go_wp2_with fail
              refine (interp_any A8 A9 (q + 1) c8 c9 _ _ wr HXW.out HYS.out (by omega) HDS.out).mono ?_
              rintro e w7 ⟨vp, rp, rfl, Ap, np, cp, rfl, h71, h72, h73⟩
              have HP7 : Hid (BS w7 Ap np cp (fiP s l b)) := Lib.hid h71
              have hnp : np ≤ q + 1 := by rw [← h71.1]; have := fiP_len s l b; rw [HL.out] at this; exact this
              have HB7 : Hid (Below w4.heap.size w4 w7) := Lib.hid (below_then hby.out h73)
              have HT7 : Hid (Tab w7 w1.heap.size gO q q ns G (fiT s l b 1)) := Lib.hid (htab.out.kept HB7.out)
              have HPF : Hid (AtB Ap (fun b => ¬ ∃ i, i < q ∧ b = G i)) := Lib.hid (fun a e ⟨i, hi, hbi⟩ => by
                have h1 := h72 a e
                have h2 := HGK.out i hi
                have h3 := hkp.out.size
                have h4 := hby.out.size
                omega)
              clear h71 h72 h73
              go_wp2_with fail
              go_loopw [19] (fun i wr => ∃ r : Nat, r ≤ q ∧ i = .int .i64 ((r : Int) + 1) ∧ Hid (Tab wr w1.heap.size gO q q ns G (fiT s l b (r + 1))) ∧ Hid (Kp (fun b => ∃ i, i < q ∧ b = G i) w7 wr)) (fun i _ => q + 1 - (intOf i).toNat)
              case atStart => exact ⟨0, by omega, rfl, HT7, Lib.hid (Kp.refl _ _)⟩
              case round =>
                obtain ⟨r, hrq, rfl, ht, hk7⟩ := hrel
                by_cases hrp : r + 1 < np
                · have hrn : r < q := by omega
                  have q4 : decide ((r : Int) + 1 < (np : Int)) = true := by simp; omega
                  have HPW := far_kept HP7.out hk7.out HPF.out
                  obtain ⟨gp, op, rfl, z1⟩ := HPW.at_ (Below.refl _ _) hrp
                  have z2 := ht.out.cell hrn
                  have z3 := ht.out.at_ hrn hbl
                  have z4 := ht.out.frozen hrn b
                  have HPUT := Lib.hid (ht.out.drew.put hrn b (gB (fiP s l b) (r + 1)))
                  rw [fiT_put s l b r (by rw [HL.out]; exact hrn) (by rw [HLS.out]; exact hbl)] at HPUT
                  have HKU : Hid (Kp (fun b => ∃ i, i < q ∧ b = G i) w7 (wr.drew.setCell ⟨G r, b, none⟩ (B (gB (fiP s l b) (r + 1))))) := Lib.hid (hk7.out.drew.set (.inl ⟨r, hrn, rfl⟩) _)
                  have s5 : (r : Int) + 1 - 1 = (r : Int) := by omega
                  have s6 : IntKind.i64.wrap (r : Int) = (r : Int) := by rw [IntKind.wrap_i64]; omega
                  have s7 : IntKind.i64.wrap ((r : Int) + 1) = (r : Int) + 1 := by rw [IntKind.wrap_i64]; omega
                  have s8 : (0 : Int) ≤ (r : Int) := by omega
                  have s9 : (r : Int) < (q : Int) := by omega
                  have s10 : (0 : Int) ≤ (r : Int) + 1 := by omega
                  have s11 : (r : Int) + 1 < (np : Int) := by omega
                  clear HPW
                  go_wp2_with fail
                  refine Text.wp_region_text (fun _ => True) [(0, 4), (1, 4), (2, 4), (3, 4), (5, 4), (6, 4), (7, 4), (8, 4), (4, 1), (9, 1), (10, 4), (11, 2)] (by kernel_rfl) (by kernel_rfl) (fun _ _ _ _ _ h => h) (trivial) ?_
                  iterate 8 (refine Text.purek rfl rfl (fun K hK => ⟨_, fun w' => by go_simp <;> rfl, ?_⟩); go_simp; refine hK _ ?_; clear hK K)
                  iterate 2 (refine Text.readk rfl rfl (fun K hK => ⟨_, by go_simp <;> rfl, ?_⟩); go_simp; refine hK _ ?_; clear hK K)
                  (refine Text.purek rfl rfl (fun K hK => ⟨_, fun w' => by go_simp <;> rfl, ?_⟩); go_simp; refine hK _ ?_; clear hK K)
                  refine Text.eff rfl rfl (fun K hK => ?_)
                  go_simp
                  refine hK _ _ trivial ?_
                  clear hK K
                  refine Text.done ?_
                  clear s5 s6 s7 s8 s9 s10 s11
                  go_wp2_with fail
                  go_roundw
                  case rel => exact ⟨r + 1, by omega, by go_num, HPUT, HKU⟩
                  case measure => simp [intOf]; omega
                · have q4 : decide ((r : Int) + 1 < (np : Int)) = false := by simp; omega
                  have HNX : Hid (Tab wr w1.heap.size gO q q ns G (fiT s l (b + 1) 1)) := Lib.hid (by rw [← fiT_next s l b (r + 1) (by rw [HP7.out.1]; omega)]; exact ht.out)
                  have HKX : Hid (Kp (fun b => ∃ i, i < q ∧ b = G i) w3 wr) := Lib.hid ((hkp.out.trans (Kp.of_below HB7.out)).trans hk7.out)
                  go_wp2_with fail
                  go_roundw
                  case rel => exact ⟨b + 1, by omega, by go_num, HNX, HKX⟩
                  case measure => simp [intOf]; omega
        · obtain rfl : b = ns := by omega
          have HLM : Hid ((fiM s l).length = k) := Lib.hid (by rw [fiM, List.length_map, List.length_range, HL.out])
          have HFR : Hid (FitRet (fiM s l) b w (.returned (.tuple #[.slice (some ⟨gO, 0, none⟩) k k, .int .i64 0])) wr) := Lib.hid (by
            refine ⟨gO, G, by rw [HLM.out], ?_, below_then HB1.out hbw⟩
            rw [HLM.out, ← fiT_end s l, HLS.out]
            have ht := htab.out
            exact ⟨ht.len, ht.rect, ht.outer, ht.rows, ht.inj, ht.far, Nat.le_trans HB1.out.size ht.old.1, fun i hi => Nat.le_trans HB1.out.size (ht.old.2 i hi)⟩)
          go_wp2_with fail
          go_ret2
          exact HFR.out
end Go.Proofs.Ytakedococfklgaa
/- kinkeeplaw10.awake returns true. -/
namespace Go.Proofs.Ytakedococfklgaa
open Go.RowKit Gf

set_option maxRecDepth 100000 in
set_option maxHeartbeats 8000000 in
theorem awake_any (w : World) : Calls Try.prog 12 #[] w fun e w' => e = .returned (.bool true) ∧ Below w.heap.size w w' := by
  go_enter Try.func12, Try.ntmps12
  go_wp2_with fail
  have HB : Hid (Below w.heap.size w w) := Lib.hid (Below.refl _ _)
  obtain ⟨W1, hW1⟩ : ∃ W, W = (((w.alloc (.cells #[.int .u8 7] 5)).alloc (.cells #[.int .u8 2] 5)).alloc (.cells #[.slice (some ⟨w.heap.size + 1, 0, none⟩) 1 1] 22)).alloc (.cells #[.int .i64 1, .int .i64 2, .int .i64 3] 3) := ⟨_, rfl⟩
  have hb1 : Below w.heap.size w W1 := by rw [hW1]; exact below_then (below_then (below_then (kb1 w _) (kb1 _ _)) (kb1 _ _)) (kb1 _ _)
  have k1 : Blk W1 w.heap.size 5 (row [7]) := by rw [hW1]; exact (((blk_at rfl _ _).alloc _).alloc _).alloc _
  have k2 : Blk W1 (w.heap.size + 1) 5 (row [2]) := by rw [hW1]; exact ((blk_at (by simp) _ _).alloc _).alloc _
  have k3 : Blk W1 (w.heap.size + 1 + 1) 22 #[.slice (some ⟨w.heap.size + 1, 0, none⟩) 1 1] := by rw [hW1]; exact (blk_at (by simp) _ _).alloc _
  have k4 : Blk W1 (w.heap.size + 1 + 1 + 1) 3 (([1, 2, 3] : List Int).map (Value.int .i64)).toArray := by rw [hW1]; exact blk_at (by simp) _ _
  rw [← hW1]
  refine (split_any _ _ _ 1 1 1 1 3 3 [7] [[2]] [1, 2, 3] W1 (bs1 k1) (ms1 k3 k2) (is_lit k4 rfl (by omega))).mono ?_
  rintro e w1 ⟨v1, rfl, ho1, hx1⟩
  rw [ex_splE]
  rw [ex_splL] at ho1
  obtain ⟨A1, c1, rfl, hs1⟩ := ho1.ss (by decide)
  have hs1' : SS w1 A1 3 c1 [(1, [5]), (2, [3]), (3, [1])] := hs1
  have FL := Lib.hid hs1'
  have HB := Lib.hid (below_then HB.out (below_then hb1 hx1))
  rw [show ([(1, [5]), (2, [3]), (3, [1])] : List (Int × List UInt8)).length = 3 from rfl]
  clear hb1 k1 k2 k3 k4 hW1 ho1 hx1 hs1 hs1'
  go_wp2_with fail
  refine (share_any 1 5 w1).mono ?_
  rintro e p0 ⟨gp0, rfl, hg, hk, hx⟩
  have FL := Lib.hid (FL.out.kept hx)
  have HB := Lib.hid (below_then HB.out hx)
  have Kp0 := Lib.hid hk
  clear hg hk hx
  go_wp2_with fail
  refine (share_any 2 3 p0).mono ?_
  rintro e p1 ⟨gp1, rfl, hg, hk, hx⟩
  have FL := Lib.hid (FL.out.kept hx)
  have HB := Lib.hid (below_then HB.out hx)
  have Kp0 := Lib.hid (Kp0.out.kept hx)
  have Kp1 := Lib.hid hk
  clear hg hk hx
  go_wp2_with fail
  obtain ⟨W2, hW2⟩ : ∃ W, W = p1.alloc (.cells #[.int .i64 1, .slice (some ⟨gp0, 0, none⟩) 1 1, .int .i64 2, .slice (some ⟨gp1, 0, none⟩) 1 1] 33) := ⟨_, rfl⟩
  have hx : Below p1.heap.size p1 W2 := by rw [hW2]; exact kb1 _ _
  have kb : Blk W2 p1.heap.size 33 #[.int .i64 1, .slice (some ⟨gp0, 0, none⟩) 1 1, .int .i64 2, .slice (some ⟨gp1, 0, none⟩) 1 1] := by rw [hW2]; exact Blk.new _ _ _
  have FL := Lib.hid (FL.out.kept hx)
  have HB := Lib.hid (below_then HB.out hx)
  have Kp0 := Lib.hid (Kp0.out.kept hx)
  have Kp1 := Lib.hid (Kp1.out.kept hx)
  have KB := Lib.hid kb
  rw [← hW2]
  clear hx kb hW2
  refine (combine_any _ 2 2 2 [(1, [5]), (2, [3])] W2 (ss2 KB.out Kp0.out Kp1.out)).mono ?_
  rintro e w2 ⟨v2, rfl, A2, n2, c2, rfl, h21, h22, h23⟩
  rw [ex_ck]
  rw [ex_cb] at h21
  have FL := Lib.hid (FL.out.kept h23)
  have HB := Lib.hid (below_then HB.out h23)
  have FS := Lib.hid h21
  clear h21 h22 h23 KB Kp0 Kp1
  go_wp2_with fail
  refine (share_any 1 5 w2).mono ?_
  rintro e q0 ⟨gq0, rfl, hg, hk, hx⟩
  have FL := Lib.hid (FL.out.kept hx)
  have FS := Lib.hid (FS.out.kept hx)
  have HB := Lib.hid (below_then HB.out hx)
  have Kq0 := Lib.hid hk
  clear hg hk hx
  go_wp2_with fail
  refine (share_any 2 3 q0).mono ?_
  rintro e q1 ⟨gq1, rfl, hg, hk, hx⟩
  have FL := Lib.hid (FL.out.kept hx)
  have FS := Lib.hid (FS.out.kept hx)
  have HB := Lib.hid (below_then HB.out hx)
  have Kq0 := Lib.hid (Kq0.out.kept hx)
  have Kq1 := Lib.hid hk
  clear hg hk hx
  go_wp2_with fail
  obtain ⟨W3, hW3⟩ : ∃ W, W = q1.alloc (.cells #[.int .i64 1, .slice (some ⟨gq0, 0, none⟩) 1 1, .int .i64 2, .slice (some ⟨gq1, 0, none⟩) 1 1] 33) := ⟨_, rfl⟩
  have hx : Below q1.heap.size q1 W3 := by rw [hW3]; exact kb1 _ _
  have kb : Blk W3 q1.heap.size 33 #[.int .i64 1, .slice (some ⟨gq0, 0, none⟩) 1 1, .int .i64 2, .slice (some ⟨gq1, 0, none⟩) 1 1] := by rw [hW3]; exact Blk.new _ _ _
  have FL := Lib.hid (FL.out.kept hx)
  have FS := Lib.hid (FS.out.kept hx)
  have HB := Lib.hid (below_then HB.out hx)
  have Kq0 := Lib.hid (Kq0.out.kept hx)
  have Kq1 := Lib.hid (Kq1.out.kept hx)
  have KB := Lib.hid kb
  rw [← hW3]
  clear hx kb hW3
  refine (extend_any _ 2 2 2 3 [(1, [5]), (2, [3])] W3 (ss2 KB.out Kq0.out Kq1.out)).mono ?_
  rintro e w3 ⟨A3, n3, c3, rfl, h31, h32, h33⟩
  rw [ex_exE, ex_exX]
  rw [ex_exL] at h31
  have FL := Lib.hid (FL.out.kept h33)
  have FS := Lib.hid (FS.out.kept h33)
  have HB := Lib.hid (below_then HB.out h33)
  have FX := Lib.hid h31
  clear h31 h32 h33 KB Kq0 Kq1
  go_wp2_with fail
  obtain ⟨W4, hW4⟩ : ∃ W, W = w3.alloc (.cells #[.int .i64 3, .slice A3 n3 c3] 33) := ⟨_, rfl⟩
  have hx : Below w3.heap.size w3 W4 := by rw [hW4]; exact kb1 _ _
  have FB : Hid (Blk W4 w3.heap.size 33 #[.int .i64 3, .slice A3 n3 c3]) := Lib.hid (by rw [hW4]; exact Blk.new _ _ _)
  have FL := Lib.hid (FL.out.kept hx)
  have FS := Lib.hid (FS.out.kept hx)
  have FX := Lib.hid (FX.out.kept hx)
  have HB := Lib.hid (below_then HB.out hx)
  rw [← hW4]
  clear hx hW4
  refine (share_any 1 1 W4).mono ?_
  rintro e r0 ⟨gr0, rfl, hg, hk, hx⟩
  have FL := Lib.hid (FL.out.kept hx)
  have FS := Lib.hid (FS.out.kept hx)
  have FX := Lib.hid (FX.out.kept hx)
  have FB := Lib.hid (FB.out.kept hx)
  have HB := Lib.hid (below_then HB.out hx)
  have Kr0 := Lib.hid hk
  clear hg hk hx
  go_wp2_with fail
  refine (share_any 2 3 r0).mono ?_
  rintro e r1 ⟨gr1, rfl, hg, hk, hx⟩
  have FL := Lib.hid (FL.out.kept hx)
  have FS := Lib.hid (FS.out.kept hx)
  have FX := Lib.hid (FX.out.kept hx)
  have FB := Lib.hid (FB.out.kept hx)
  have HB := Lib.hid (below_then HB.out hx)
  have Kr0 := Lib.hid (Kr0.out.kept hx)
  have Kr1 := Lib.hid hk
  clear hg hk hx
  go_wp2_with fail
  refine (share_any 3 1 r1).mono ?_
  rintro e r2 ⟨gr2, rfl, hg, hk, hx⟩
  have FL := Lib.hid (FL.out.kept hx)
  have FS := Lib.hid (FS.out.kept hx)
  have FX := Lib.hid (FX.out.kept hx)
  have FB := Lib.hid (FB.out.kept hx)
  have HB := Lib.hid (below_then HB.out hx)
  have Kr0 := Lib.hid (Kr0.out.kept hx)
  have Kr1 := Lib.hid (Kr1.out.kept hx)
  have Kr2 := Lib.hid hk
  clear hg hk hx
  go_wp2_with fail
  refine (share_any 4 15 r2).mono ?_
  rintro e r3 ⟨gr3, rfl, hg, hk, hx⟩
  have FL := Lib.hid (FL.out.kept hx)
  have FS := Lib.hid (FS.out.kept hx)
  have FX := Lib.hid (FX.out.kept hx)
  have FB := Lib.hid (FB.out.kept hx)
  have HB := Lib.hid (below_then HB.out hx)
  have Kr0 := Lib.hid (Kr0.out.kept hx)
  have Kr1 := Lib.hid (Kr1.out.kept hx)
  have Kr2 := Lib.hid (Kr2.out.kept hx)
  have Kr3 := Lib.hid hk
  clear hg hk hx
  go_wp2_with fail
  obtain ⟨W5, hW5⟩ : ∃ W, W = r3.alloc (.cells #[.int .i64 1, .slice (some ⟨gr0, 0, none⟩) 1 1, .int .i64 2, .slice (some ⟨gr1, 0, none⟩) 1 1, .int .i64 3, .slice (some ⟨gr2, 0, none⟩) 1 1, .int .i64 4, .slice (some ⟨gr3, 0, none⟩) 1 1] 33) := ⟨_, rfl⟩
  have hx : Below r3.heap.size r3 W5 := by rw [hW5]; exact kb1 _ _
  have kb : Blk W5 r3.heap.size 33 #[.int .i64 1, .slice (some ⟨gr0, 0, none⟩) 1 1, .int .i64 2, .slice (some ⟨gr1, 0, none⟩) 1 1, .int .i64 3, .slice (some ⟨gr2, 0, none⟩) 1 1, .int .i64 4, .slice (some ⟨gr3, 0, none⟩) 1 1] := by rw [hW5]; exact Blk.new _ _ _
  have FL := Lib.hid (FL.out.kept hx)
  have FS := Lib.hid (FS.out.kept hx)
  have FX := Lib.hid (FX.out.kept hx)
  have FB := Lib.hid (FB.out.kept hx)
  have HB := Lib.hid (below_then HB.out hx)
  have Kr0 := Lib.hid (Kr0.out.kept hx)
  have Kr1 := Lib.hid (Kr1.out.kept hx)
  have Kr2 := Lib.hid (Kr2.out.kept hx)
  have Kr3 := Lib.hid (Kr3.out.kept hx)
  have KB := Lib.hid kb
  rw [← hW5]
  clear hx kb hW5
  have hwr := wrong_ok _ 4 4 2 [(1, [1]), (2, [3]), (3, [1]), (4, [15])] W5 (ss4 KB.out Kr0.out Kr1.out Kr2.out Kr3.out) ex_shW (by omega) (by omega) (by omega)
  rw [ex_wr] at hwr
  refine hwr.mono ?_
  clear hwr
  rintro e w5 ⟨h51, v5, rfl, h52⟩
  obtain ⟨A5, c5, rfl, h53⟩ := IS.of_own h52 (by decide)
  have h53' : IS w5 A5 1 c5 [1] := h53
  rw [show ([1] : List Int).length = 1 from rfl]
  have FL := Lib.hid (FL.out.kept h51)
  have FS := Lib.hid (FS.out.kept h51)
  have FX := Lib.hid (FX.out.kept h51)
  have FB := Lib.hid (FB.out.kept h51)
  have HB := Lib.hid (below_then HB.out h51)
  have FI := Lib.hid h53'
  clear h51 h52 h53 h53' KB Kr0 Kr1 Kr2 Kr3
  go_wp2_with fail
  obtain ⟨W6, hW6⟩ : ∃ W, W = w5.alloc (.cells #[.int .u8 9] 5) := ⟨_, rfl⟩
  have hx : Below w5.heap.size w5 W6 := by rw [hW6]; exact kb1 _ _
  have KN : Hid (Blk W6 w5.heap.size 5 (row [9])) := Lib.hid (by rw [hW6]; exact Blk.new _ _ _)
  have FL := Lib.hid (FL.out.kept hx)
  have FS := Lib.hid (FS.out.kept hx)
  have FX := Lib.hid (FX.out.kept hx)
  have FB := Lib.hid (FB.out.kept hx)
  have FI := Lib.hid (FI.out.kept hx)
  have HB := Lib.hid (below_then HB.out hx)
  rw [← hW6]
  clear hx hW6
  refine (share_any 1 5 W6).mono ?_
  rintro e t0 ⟨gt0, rfl, hg, hk, hx⟩
  have FL := Lib.hid (FL.out.kept hx)
  have FS := Lib.hid (FS.out.kept hx)
  have FX := Lib.hid (FX.out.kept hx)
  have FB := Lib.hid (FB.out.kept hx)
  have FI := Lib.hid (FI.out.kept hx)
  have KN := Lib.hid (KN.out.kept hx)
  have HB := Lib.hid (below_then HB.out hx)
  have Kt0 := Lib.hid hk
  clear hg hk hx
  go_wp2_with fail
  obtain ⟨W7, hW7⟩ : ∃ W, W = t0.alloc (.cells #[.int .i64 1, .slice (some ⟨gt0, 0, none⟩) 1 1] 33) := ⟨_, rfl⟩
  have hx : Below t0.heap.size t0 W7 := by rw [hW7]; exact kb1 _ _
  have kb : Blk W7 t0.heap.size 33 #[.int .i64 1, .slice (some ⟨gt0, 0, none⟩) 1 1] := by rw [hW7]; exact Blk.new _ _ _
  have FL := Lib.hid (FL.out.kept hx)
  have FS := Lib.hid (FS.out.kept hx)
  have FX := Lib.hid (FX.out.kept hx)
  have FB := Lib.hid (FB.out.kept hx)
  have FI := Lib.hid (FI.out.kept hx)
  have KN := Lib.hid (KN.out.kept hx)
  have HB := Lib.hid (below_then HB.out hx)
  have Kt0 := Lib.hid (Kt0.out.kept hx)
  have KB := Lib.hid kb
  rw [← hW7]
  clear hx kb hW7
  have hft := fits_ok _ _ 1 1 1 1 2 [9] [(1, [5])] W7 (bs1 KN.out) (ss1 KB.out (bs1 Kt0.out)) ex_shF (by omega) (by omega) (by omega) (by omega) (fun k hk => match k, hk with | 0, _ => rfl)
  rw [ex_fi] at hft
  refine hft.mono ?_
  clear hft
  rintro e w7 ⟨gO, G, rfl, h71, h72⟩
  rw [show ([[12]] : List (List UInt8)).length = 1 from rfl]
  have h73 := h71.ms (by decide) (by decide)
  have h73' : MS w7 (some ⟨gO, 0, none⟩) 1 1 [[12]] := h73
  have FL := Lib.hid (FL.out.kept h72)
  have FS := Lib.hid (FS.out.kept h72)
  have FX := Lib.hid (FX.out.kept h72)
  have FB := Lib.hid (FB.out.kept h72)
  have FI := Lib.hid (FI.out.kept h72)
  have KN := Lib.hid (KN.out.kept h72)
  have HB := Lib.hid (below_then HB.out h72)
  have FC := Lib.hid h73'
  clear h71 h72 h73 h73' KB KN Kt0
  go_wp2_with fail
  refine (count_any 1 3 false w7).mono ?_
  rintro e w' ⟨rfl, rfl⟩
  rw [ex_ctE, ex_ctV]
  go_wp2_with fail
  refine (combine_any none 0 0 2 [] w7 SS.nil).mono ?_
  rintro e w8 ⟨v8, rfl, A8, n8, c8, rfl, h81, h82, h83⟩
  rw [ex_ck0]
  have FL := Lib.hid (FL.out.kept h83)
  have FS := Lib.hid (FS.out.kept h83)
  have FX := Lib.hid (FX.out.kept h83)
  have FB := Lib.hid (FB.out.kept h83)
  have FI := Lib.hid (FI.out.kept h83)
  have FC := Lib.hid (FC.out.kept h83)
  have HB := Lib.hid (below_then HB.out h83)
  clear h81 h82 h83
  go_wp2_with fail
  refine Text.wp_region_bt (fun w' => w'.cell? ⟨w3.heap.size, 0, none⟩ = some (.int .i64 3) ∧ w'.cell? ⟨w3.heap.size, 1, none⟩ = some (.slice A3 n3 c3)) (.still 0 4 (.eff 1 (.eff 2 (.eff 3 (.eff 4 (.eff 5 (.still 6 4 (.still 7 4 (.still 8 1 (.still 9 4 (.still 10 4 (.still 11 4 (.still 12 0 (.br 13 (.eff 14 (.eff 15 (.eff 16 (.still 17 4 (.still 18 4 (.still 19 4 (.still 20 4 (.still 21 1 (.still 22 4 (.still 23 4 (.still 24 4 (.still 25 4 (.still 26 4 (.still 27 1 (.still 28 1 (.still 29 4 (.still 30 4 (.still 31 4 (.still 32 4 (.still 33 4 (.still 34 4 (.still 35 4 (.leaf))))))))))))))))))))))) 14 (.br 13 (.eff 15 (.eff 16 (.still 17 4 (.still 18 4 (.still 19 4 (.still 20 4 (.still 21 1 (.still 22 4 (.still 23 4 (.still 24 4 (.still 25 4 (.still 26 4 (.still 27 1 (.still 28 1 (.still 29 4 (.still 30 4 (.still 31 4 (.still 32 4 (.still 33 4 (.still 34 4 (.still 35 4 (.leaf)))))))))))))))))))))) 15 (.eff 13 (.eff 16 (.still 17 4 (.still 18 4 (.still 19 4 (.still 20 4 (.still 21 1 (.still 22 4 (.still 23 4 (.still 24 4 (.still 25 4 (.still 26 4 (.still 27 1 (.still 28 1 (.still 29 4 (.still 30 4 (.still 31 4 (.still 32 4 (.still 33 4 (.still 34 4 (.still 35 4 (.leaf))))))))))))))))))))))))))))))))))))) (by kernel_rfl) (by kernel_rfl) (fun _ _ _ _ _ h => h) ((⟨by rw [FB.out.drew.cell]; rfl, by rw [FB.out.drew.cell]; rfl⟩)) ?_
  obtain ⟨wd, hwd⟩ : ∃ W, W = w8.drew := ⟨_, rfl⟩
  have hx : Below w8.heap.size w8 wd := by rw [hwd]; exact (Below.refl _ _).drew
  have FL := Lib.hid (FL.out.kept hx)
  have FS := Lib.hid (FS.out.kept hx)
  have FX := Lib.hid (FX.out.kept hx)
  have FB := Lib.hid (FB.out.kept hx)
  have FI := Lib.hid (FI.out.kept hx)
  have FC := Lib.hid (FC.out.kept hx)
  have HB := Lib.hid (below_then HB.out hx)
  rw [← hwd]
  clear hx hwd
  (refine Text.bpurek rfl rfl (fun K hK => ⟨_, fun w' => by go_simp <;> rfl, ?_⟩); go_simp; refine hK _ ?_; clear hK K)
  refine Text.beff rfl rfl (fun K hK => ?_)
  go_simp
  refine (share_any 1 5 wd).mono ?_
  rintro e d0 ⟨gd0, rfl, hg, hk, hx⟩
  have FL := Lib.hid (FL.out.kept hx)
  have FS := Lib.hid (FS.out.kept hx)
  have FX := Lib.hid (FX.out.kept hx)
  have FB := Lib.hid (FB.out.kept hx)
  have FI := Lib.hid (FI.out.kept hx)
  have FC := Lib.hid (FC.out.kept hx)
  have HB := Lib.hid (below_then HB.out hx)
  have Kd0 := Lib.hid hk
  refine hK _ _ ⟨by rw [FB.out.cell]; rfl, by rw [FB.out.cell]; rfl⟩ ?_
  clear hK K hg hk hx
  refine Text.beff rfl rfl (fun K hK => ?_)
  go_simp
  refine (share_any 2 3 d0).mono ?_
  rintro e d1 ⟨gd1, rfl, hg, hk, hx⟩
  have FL := Lib.hid (FL.out.kept hx)
  have FS := Lib.hid (FS.out.kept hx)
  have FX := Lib.hid (FX.out.kept hx)
  have FB := Lib.hid (FB.out.kept hx)
  have FI := Lib.hid (FI.out.kept hx)
  have FC := Lib.hid (FC.out.kept hx)
  have HB := Lib.hid (below_then HB.out hx)
  have Kd0 := Lib.hid (Kd0.out.kept hx)
  have Kd1 := Lib.hid hk
  refine hK _ _ ⟨by rw [FB.out.cell]; rfl, by rw [FB.out.cell]; rfl⟩ ?_
  clear hK K hg hk hx
  refine Text.beff rfl rfl (fun K hK => ?_)
  go_simp
  refine (share_any 3 1 d1).mono ?_
  rintro e d2 ⟨gd2, rfl, hg, hk, hx⟩
  have FL := Lib.hid (FL.out.kept hx)
  have FS := Lib.hid (FS.out.kept hx)
  have FX := Lib.hid (FX.out.kept hx)
  have FB := Lib.hid (FB.out.kept hx)
  have FI := Lib.hid (FI.out.kept hx)
  have FC := Lib.hid (FC.out.kept hx)
  have HB := Lib.hid (below_then HB.out hx)
  have Kd0 := Lib.hid (Kd0.out.kept hx)
  have Kd1 := Lib.hid (Kd1.out.kept hx)
  have Kd2 := Lib.hid hk
  refine hK _ _ ⟨by rw [FB.out.cell]; rfl, by rw [FB.out.cell]; rfl⟩ ?_
  clear hK K hg hk hx
  refine Text.beff rfl rfl (fun K hK => ?_)
  go_simp
  obtain ⟨d3, hd3⟩ : ∃ W, W = d2.alloc (.cells #[.int .i64 1, .slice (some ⟨gd0, 0, none⟩) 1 1, .int .i64 2, .slice (some ⟨gd1, 0, none⟩) 1 1, .int .i64 3, .slice (some ⟨gd2, 0, none⟩) 1 1] 33) := ⟨_, rfl⟩
  obtain ⟨gd3, hgd3⟩ : ∃ g, g = d2.heap.size := ⟨_, rfl⟩
  have hx : Below d2.heap.size d2 d3 := by rw [hd3]; exact kb1 _ _
  have hk : Blk d3 gd3 33 #[.int .i64 1, .slice (some ⟨gd0, 0, none⟩) 1 1, .int .i64 2, .slice (some ⟨gd1, 0, none⟩) 1 1, .int .i64 3, .slice (some ⟨gd2, 0, none⟩) 1 1] := by rw [hd3, hgd3]; exact Blk.new _ _ _
  have FL := Lib.hid (FL.out.kept hx)
  have FS := Lib.hid (FS.out.kept hx)
  have FX := Lib.hid (FX.out.kept hx)
  have FB := Lib.hid (FB.out.kept hx)
  have FI := Lib.hid (FI.out.kept hx)
  have FC := Lib.hid (FC.out.kept hx)
  have HB := Lib.hid (below_then HB.out hx)
  have Kd0 := Lib.hid (Kd0.out.kept hx)
  have Kd1 := Lib.hid (Kd1.out.kept hx)
  have Kd2 := Lib.hid (Kd2.out.kept hx)
  have Kd3 := Lib.hid hk
  rw [← hd3, ← hgd3]
  refine hK _ _ ⟨by rw [FB.out.cell]; rfl, by rw [FB.out.cell]; rfl⟩ ?_
  clear hK K hk hx hd3 hgd3
  refine Text.beff rfl rfl (fun K hK => ?_)
  go_simp
  refine (same_any _ _ 3 c1 3 3 [(1, [5]), (2, [3]), (3, [1])] [(1, [5]), (2, [3]), (3, [1])] d3 (FL.out) (ss3 Kd3.out Kd0.out Kd1.out Kd2.out)).mono ?_
  rintro e d4 ⟨rfl, hx⟩
  rw [show sameS [(1, [5]), (2, [3]), (3, [1])] [(1, [5]), (2, [3]), (3, [1])] = true from by decide +kernel]
  have FL := Lib.hid (FL.out.kept hx)
  have FS := Lib.hid (FS.out.kept hx)
  have FX := Lib.hid (FX.out.kept hx)
  have FB := Lib.hid (FB.out.kept hx)
  have FI := Lib.hid (FI.out.kept hx)
  have FC := Lib.hid (FC.out.kept hx)
  have HB := Lib.hid (below_then HB.out hx)
  refine hK _ _ ⟨by rw [FB.out.cell]; rfl, by rw [FB.out.cell]; rfl⟩ ?_
  clear hK K hx
  have cvS := conv_str FS.out
  have hsS : (strB [7]).toList = [7] := strB_list _
  iterate 2 (refine Text.bpurek rfl rfl (fun K hK => ⟨_, fun w' => by go_simp <;> rfl, ?_⟩); go_simp; refine hK _ ?_; clear hK K)
  (refine Text.breadk rfl rfl (fun K hK => ⟨_, by go_simp <;> rfl, ?_⟩); go_simp; refine hK _ ?_; clear hK K)
  iterate 3 (refine Text.bpurek rfl rfl (fun K hK => ⟨_, fun w' => by go_simp <;> rfl, ?_⟩); go_simp; refine hK _ ?_; clear hK K)
  (refine Text.bheldk rfl rfl (fun K hK => ⟨_, fun w' hw' => by have h9 := hw'.1; have h8 := hw'.2; go_simp <;> rfl, ?_⟩); go_simp; refine hK _ ?_; clear hK K)
  clear cvS hsS
  refine Text.bfork ?_ ?_
  · refine Text.beffw rfl rfl (fun K hK => ?_)
    go_simp
    obtain ⟨e1, he1⟩ : ∃ W, W = d4.alloc (.cells #[.int .i64 3, .slice A3 n3 c3] 33) := ⟨_, rfl⟩
    obtain ⟨ge1, hge1⟩ : ∃ g, g = d4.heap.size := ⟨_, rfl⟩
    have hx : Below d4.heap.size d4 e1 := by rw [he1]; exact kb1 _ _
    have hk : Blk e1 ge1 33 #[.int .i64 3, .slice A3 n3 c3] := by rw [he1, hge1]; exact Blk.new _ _ _
    have FL := Lib.hid (FL.out.kept hx)
    have FS := Lib.hid (FS.out.kept hx)
    have FX := Lib.hid (FX.out.kept hx)
    have FB := Lib.hid (FB.out.kept hx)
    have FI := Lib.hid (FI.out.kept hx)
    have FC := Lib.hid (FC.out.kept hx)
    have HB := Lib.hid (below_then HB.out hx)
    have Ke1 := Lib.hid hk
    rw [← he1, ← hge1]
    refine hK _ _ ⟨by rw [FB.out.cell]; rfl, by rw [FB.out.cell]; rfl⟩ ?_
    clear hK K hk hx he1 hge1
    refine Text.beffw rfl rfl (fun K hK => ?_)
    go_simp
    refine (share_any 3 1 e1).mono ?_
    rintro e e2 ⟨ge2, rfl, hg, hk, hx⟩
    have FL := Lib.hid (FL.out.kept hx)
    have FS := Lib.hid (FS.out.kept hx)
    have FX := Lib.hid (FX.out.kept hx)
    have FB := Lib.hid (FB.out.kept hx)
    have FI := Lib.hid (FI.out.kept hx)
    have FC := Lib.hid (FC.out.kept hx)
    have HB := Lib.hid (below_then HB.out hx)
    have Ke1 := Lib.hid (Ke1.out.kept hx)
    have Ke2 := Lib.hid hk
    refine hK _ _ ⟨by rw [FB.out.cell]; rfl, by rw [FB.out.cell]; rfl⟩ ?_
    clear hK K hg hk hx
    refine Text.beffw rfl rfl (fun K hK => ?_)
    go_simp
    obtain ⟨e3, he3⟩ : ∃ W, W = e2.alloc (.cells #[.int .i64 3, .slice (some ⟨ge2, 0, none⟩) 1 1] 33) := ⟨_, rfl⟩
    obtain ⟨ge3, hge3⟩ : ∃ g, g = e2.heap.size := ⟨_, rfl⟩
    have hx : Below e2.heap.size e2 e3 := by rw [he3]; exact kb1 _ _
    have hk : Blk e3 ge3 33 #[.int .i64 3, .slice (some ⟨ge2, 0, none⟩) 1 1] := by rw [he3, hge3]; exact Blk.new _ _ _
    have FL := Lib.hid (FL.out.kept hx)
    have FS := Lib.hid (FS.out.kept hx)
    have FX := Lib.hid (FX.out.kept hx)
    have FB := Lib.hid (FB.out.kept hx)
    have FI := Lib.hid (FI.out.kept hx)
    have FC := Lib.hid (FC.out.kept hx)
    have HB := Lib.hid (below_then HB.out hx)
    have Ke1 := Lib.hid (Ke1.out.kept hx)
    have Ke2 := Lib.hid (Ke2.out.kept hx)
    have Ke3 := Lib.hid hk
    rw [← he3, ← hge3]
    refine hK _ _ ⟨by rw [FB.out.cell]; rfl, by rw [FB.out.cell]; rfl⟩ ?_
    clear hK K hk hx he3 hge3
    refine Text.beffw rfl rfl (fun K hK => ?_)
    go_simp
    refine (same_any _ _ 1 1 1 1 [(3, [1])] [(3, [1])] e3 (ss1 Ke1.out FX.out) (ss1 Ke3.out (bs1 Ke2.out))).mono ?_
    rintro e z9 ⟨rfl, hx⟩
    rw [show sameS [(3, [1])] [(3, [1])] = true from by decide +kernel]
    have FL := Lib.hid (FL.out.kept hx)
    have FS := Lib.hid (FS.out.kept hx)
    have FX := Lib.hid (FX.out.kept hx)
    have FB := Lib.hid (FB.out.kept hx)
    have FI := Lib.hid (FI.out.kept hx)
    have FC := Lib.hid (FC.out.kept hx)
    have HB := Lib.hid (below_then HB.out hx)
    refine hK _ _ ⟨by rw [FB.out.cell]; rfl, by rw [FB.out.cell]; rfl⟩ ?_
    clear hK K hx
    obtain ⟨gi, oi, rfl, ci⟩ := FI.out.at_ (Below.refl _ _) (show 0 < 1 by omega)
    have ci' : z9.cell? ⟨gi, oi, none⟩ = some (.int .i64 1) := ci
    obtain ⟨gm, om, Am, nm, cm, em, ci2, ci3⟩ := FC.out.at_ (Below.refl _ _) (show 0 < 1 by omega)
    cases Option.some.inj em
    have ci2' : z9.cell? ⟨gO, 0, none⟩ = some (.slice Am nm cm) := ci2
    have cvC : (convert 22 9 (.slice Am nm cm)).run Try.prog z9 = .ok (.string (strB [12])) z9 := conv_str ci3
    have hsC : (strB [12]).toList = [12] := strB_list _
    clear ci ci2 ci3
    iterate 4 (refine Text.bpurek rfl rfl (fun K hK => ⟨_, fun w' => by go_simp <;> rfl, ?_⟩); go_simp; refine hK _ ?_; clear hK K)
    (refine Text.breadk rfl rfl (fun K hK => ⟨_, by go_simp <;> rfl, ?_⟩); go_simp; refine hK _ ?_; clear hK K)
    iterate 5 (refine Text.bpurek rfl rfl (fun K hK => ⟨_, fun w' => by go_simp <;> rfl, ?_⟩); go_simp; refine hK _ ?_; clear hK K)
    iterate 2 (refine Text.breadk rfl rfl (fun K hK => ⟨_, by go_simp <;> rfl, ?_⟩); go_simp; refine hK _ ?_; clear hK K)
    iterate 7 (refine Text.bpurek rfl rfl (fun K hK => ⟨_, fun w' => by go_simp <;> rfl, ?_⟩); go_simp; refine hK _ ?_; clear hK K)
    refine Text.bdone ?_
    go_wp2_with fail
    go_ret
    exact ⟨rfl, HB.out⟩
  · refine Text.beffw rfl rfl (fun K hK => ?_)
    go_simp
    refine (share_any 3 1 d4).mono ?_
    rintro e f1 ⟨gf1, rfl, hg, hk, hx⟩
    have FL := Lib.hid (FL.out.kept hx)
    have FS := Lib.hid (FS.out.kept hx)
    have FX := Lib.hid (FX.out.kept hx)
    have FB := Lib.hid (FB.out.kept hx)
    have FI := Lib.hid (FI.out.kept hx)
    have FC := Lib.hid (FC.out.kept hx)
    have HB := Lib.hid (below_then HB.out hx)
    have Kf1 := Lib.hid hk
    refine hK _ _ ⟨by rw [FB.out.cell]; rfl, by rw [FB.out.cell]; rfl⟩ ?_
    clear hK K hg hk hx
    refine Text.bfork ?_ ?_
    · refine Text.beffw rfl rfl (fun K hK => ?_)
      go_simp
      obtain ⟨f2, hf2⟩ : ∃ W, W = f1.alloc (.cells #[.int .i64 3, .slice A3 n3 c3] 33) := ⟨_, rfl⟩
      obtain ⟨gf2, hgf2⟩ : ∃ g, g = f1.heap.size := ⟨_, rfl⟩
      have hx : Below f1.heap.size f1 f2 := by rw [hf2]; exact kb1 _ _
      have hk : Blk f2 gf2 33 #[.int .i64 3, .slice A3 n3 c3] := by rw [hf2, hgf2]; exact Blk.new _ _ _
      have FL := Lib.hid (FL.out.kept hx)
      have FS := Lib.hid (FS.out.kept hx)
      have FX := Lib.hid (FX.out.kept hx)
      have FB := Lib.hid (FB.out.kept hx)
      have FI := Lib.hid (FI.out.kept hx)
      have FC := Lib.hid (FC.out.kept hx)
      have HB := Lib.hid (below_then HB.out hx)
      have Kf1 := Lib.hid (Kf1.out.kept hx)
      have Kf2 := Lib.hid hk
      rw [← hf2, ← hgf2]
      refine hK _ _ ⟨by rw [FB.out.cell]; rfl, by rw [FB.out.cell]; rfl⟩ ?_
      clear hK K hk hx hf2 hgf2
      refine Text.beffw rfl rfl (fun K hK => ?_)
      go_simp
      obtain ⟨f3, hf3⟩ : ∃ W, W = f2.alloc (.cells #[.int .i64 3, .slice (some ⟨gf1, 0, none⟩) 1 1] 33) := ⟨_, rfl⟩
      obtain ⟨gf3, hgf3⟩ : ∃ g, g = f2.heap.size := ⟨_, rfl⟩
      have hx : Below f2.heap.size f2 f3 := by rw [hf3]; exact kb1 _ _
      have hk : Blk f3 gf3 33 #[.int .i64 3, .slice (some ⟨gf1, 0, none⟩) 1 1] := by rw [hf3, hgf3]; exact Blk.new _ _ _
      have FL := Lib.hid (FL.out.kept hx)
      have FS := Lib.hid (FS.out.kept hx)
      have FX := Lib.hid (FX.out.kept hx)
      have FB := Lib.hid (FB.out.kept hx)
      have FI := Lib.hid (FI.out.kept hx)
      have FC := Lib.hid (FC.out.kept hx)
      have HB := Lib.hid (below_then HB.out hx)
      have Kf1 := Lib.hid (Kf1.out.kept hx)
      have Kf2 := Lib.hid (Kf2.out.kept hx)
      have Kf3 := Lib.hid hk
      rw [← hf3, ← hgf3]
      refine hK _ _ ⟨by rw [FB.out.cell]; rfl, by rw [FB.out.cell]; rfl⟩ ?_
      clear hK K hk hx hf3 hgf3
      refine Text.beffw rfl rfl (fun K hK => ?_)
      go_simp
      refine (same_any _ _ 1 1 1 1 [(3, [1])] [(3, [1])] f3 (ss1 Kf2.out FX.out) (ss1 Kf3.out (bs1 Kf1.out))).mono ?_
      rintro e z9 ⟨rfl, hx⟩
      rw [show sameS [(3, [1])] [(3, [1])] = true from by decide +kernel]
      have FL := Lib.hid (FL.out.kept hx)
      have FS := Lib.hid (FS.out.kept hx)
      have FX := Lib.hid (FX.out.kept hx)
      have FB := Lib.hid (FB.out.kept hx)
      have FI := Lib.hid (FI.out.kept hx)
      have FC := Lib.hid (FC.out.kept hx)
      have HB := Lib.hid (below_then HB.out hx)
      refine hK _ _ ⟨by rw [FB.out.cell]; rfl, by rw [FB.out.cell]; rfl⟩ ?_
      clear hK K hx
      obtain ⟨gi, oi, rfl, ci⟩ := FI.out.at_ (Below.refl _ _) (show 0 < 1 by omega)
      have ci' : z9.cell? ⟨gi, oi, none⟩ = some (.int .i64 1) := ci
      obtain ⟨gm, om, Am, nm, cm, em, ci2, ci3⟩ := FC.out.at_ (Below.refl _ _) (show 0 < 1 by omega)
      cases Option.some.inj em
      have ci2' : z9.cell? ⟨gO, 0, none⟩ = some (.slice Am nm cm) := ci2
      have cvC : (convert 22 9 (.slice Am nm cm)).run Try.prog z9 = .ok (.string (strB [12])) z9 := conv_str ci3
      have hsC : (strB [12]).toList = [12] := strB_list _
      clear ci ci2 ci3
      iterate 4 (refine Text.bpurek rfl rfl (fun K hK => ⟨_, fun w' => by go_simp <;> rfl, ?_⟩); go_simp; refine hK _ ?_; clear hK K)
      (refine Text.breadk rfl rfl (fun K hK => ⟨_, by go_simp <;> rfl, ?_⟩); go_simp; refine hK _ ?_; clear hK K)
      iterate 5 (refine Text.bpurek rfl rfl (fun K hK => ⟨_, fun w' => by go_simp <;> rfl, ?_⟩); go_simp; refine hK _ ?_; clear hK K)
      iterate 2 (refine Text.breadk rfl rfl (fun K hK => ⟨_, by go_simp <;> rfl, ?_⟩); go_simp; refine hK _ ?_; clear hK K)
      iterate 7 (refine Text.bpurek rfl rfl (fun K hK => ⟨_, fun w' => by go_simp <;> rfl, ?_⟩); go_simp; refine hK _ ?_; clear hK K)
      refine Text.bdone ?_
      go_wp2_with fail
      go_ret
      exact ⟨rfl, HB.out⟩
    · refine Text.beffw rfl rfl (fun K hK => ?_)
      go_simp
      obtain ⟨h2, hh2⟩ : ∃ W, W = f1.alloc (.cells #[.int .i64 3, .slice (some ⟨gf1, 0, none⟩) 1 1] 33) := ⟨_, rfl⟩
      obtain ⟨gh2, hgh2⟩ : ∃ g, g = f1.heap.size := ⟨_, rfl⟩
      have hx : Below f1.heap.size f1 h2 := by rw [hh2]; exact kb1 _ _
      have hk : Blk h2 gh2 33 #[.int .i64 3, .slice (some ⟨gf1, 0, none⟩) 1 1] := by rw [hh2, hgh2]; exact Blk.new _ _ _
      have FL := Lib.hid (FL.out.kept hx)
      have FS := Lib.hid (FS.out.kept hx)
      have FX := Lib.hid (FX.out.kept hx)
      have FB := Lib.hid (FB.out.kept hx)
      have FI := Lib.hid (FI.out.kept hx)
      have FC := Lib.hid (FC.out.kept hx)
      have HB := Lib.hid (below_then HB.out hx)
      have Kf1 := Lib.hid (Kf1.out.kept hx)
      have Kh2 := Lib.hid hk
      rw [← hh2, ← hgh2]
      refine hK _ _ ⟨by rw [FB.out.cell]; rfl, by rw [FB.out.cell]; rfl⟩ ?_
      clear hK K hk hx hh2 hgh2
      refine Text.beffw rfl rfl (fun K hK => ?_)
      go_simp
      obtain ⟨h3, hh3⟩ : ∃ W, W = h2.alloc (.cells #[.int .i64 3, .slice A3 n3 c3] 33) := ⟨_, rfl⟩
      obtain ⟨gh3, hgh3⟩ : ∃ g, g = h2.heap.size := ⟨_, rfl⟩
      have hx : Below h2.heap.size h2 h3 := by rw [hh3]; exact kb1 _ _
      have hk : Blk h3 gh3 33 #[.int .i64 3, .slice A3 n3 c3] := by rw [hh3, hgh3]; exact Blk.new _ _ _
      have FL := Lib.hid (FL.out.kept hx)
      have FS := Lib.hid (FS.out.kept hx)
      have FX := Lib.hid (FX.out.kept hx)
      have FB := Lib.hid (FB.out.kept hx)
      have FI := Lib.hid (FI.out.kept hx)
      have FC := Lib.hid (FC.out.kept hx)
      have HB := Lib.hid (below_then HB.out hx)
      have Kf1 := Lib.hid (Kf1.out.kept hx)
      have Kh2 := Lib.hid (Kh2.out.kept hx)
      have Kh3 := Lib.hid hk
      rw [← hh3, ← hgh3]
      refine hK _ _ ⟨by rw [FB.out.cell]; rfl, by rw [FB.out.cell]; rfl⟩ ?_
      clear hK K hk hx hh3 hgh3
      refine Text.beffw rfl rfl (fun K hK => ?_)
      go_simp
      refine (same_any _ _ 1 1 1 1 [(3, [1])] [(3, [1])] h3 (ss1 Kh3.out FX.out) (ss1 Kh2.out (bs1 Kf1.out))).mono ?_
      rintro e z9 ⟨rfl, hx⟩
      rw [show sameS [(3, [1])] [(3, [1])] = true from by decide +kernel]
      have FL := Lib.hid (FL.out.kept hx)
      have FS := Lib.hid (FS.out.kept hx)
      have FX := Lib.hid (FX.out.kept hx)
      have FB := Lib.hid (FB.out.kept hx)
      have FI := Lib.hid (FI.out.kept hx)
      have FC := Lib.hid (FC.out.kept hx)
      have HB := Lib.hid (below_then HB.out hx)
      refine hK _ _ ⟨by rw [FB.out.cell]; rfl, by rw [FB.out.cell]; rfl⟩ ?_
      clear hK K hx
      obtain ⟨gi, oi, rfl, ci⟩ := FI.out.at_ (Below.refl _ _) (show 0 < 1 by omega)
      have ci' : z9.cell? ⟨gi, oi, none⟩ = some (.int .i64 1) := ci
      obtain ⟨gm, om, Am, nm, cm, em, ci2, ci3⟩ := FC.out.at_ (Below.refl _ _) (show 0 < 1 by omega)
      cases Option.some.inj em
      have ci2' : z9.cell? ⟨gO, 0, none⟩ = some (.slice Am nm cm) := ci2
      have cvC : (convert 22 9 (.slice Am nm cm)).run Try.prog z9 = .ok (.string (strB [12])) z9 := conv_str ci3
      have hsC : (strB [12]).toList = [12] := strB_list _
      clear ci ci2 ci3
      iterate 4 (refine Text.bpurek rfl rfl (fun K hK => ⟨_, fun w' => by go_simp <;> rfl, ?_⟩); go_simp; refine hK _ ?_; clear hK K)
      (refine Text.breadk rfl rfl (fun K hK => ⟨_, by go_simp <;> rfl, ?_⟩); go_simp; refine hK _ ?_; clear hK K)
      iterate 5 (refine Text.bpurek rfl rfl (fun K hK => ⟨_, fun w' => by go_simp <;> rfl, ?_⟩); go_simp; refine hK _ ?_; clear hK K)
      iterate 2 (refine Text.breadk rfl rfl (fun K hK => ⟨_, by go_simp <;> rfl, ?_⟩); go_simp; refine hK _ ?_; clear hK K)
      iterate 7 (refine Text.bpurek rfl rfl (fun K hK => ⟨_, fun w' => by go_simp <;> rfl, ?_⟩); go_simp; refine hK _ ?_; clear hK K)
      refine Text.bdone ?_
      go_wp2_with fail
      go_ret
      exact ⟨rfl, HB.out⟩
end Go.Proofs.Ytakedococfklgaa
