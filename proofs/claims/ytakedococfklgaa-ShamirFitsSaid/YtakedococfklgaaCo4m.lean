/- shamir.Wrong, first part: words for the column that is filled; the contract. -/
import Derived.Test.YtakedococfklgaaCo3m
import Derived.Test.YtakedococfklgaaB2
import Derived.Test.YtakedococfklgaaSom
namespace Go.Proofs.Ytakedococfklgaa
open Go.RowKit Gf

attribute [local go_sem] Gf.bv_toNat Gf.bv_wrap

theorem own_form {w : World} {base : Nat} {e : TypeId} {v : Value} {n : Nat} {xs : List Value} (h0 : 0 < n) (h : w.ownsRow base e 1 v n xs) : ∃ m g cap, m = n ∧ v = .slice (some ⟨g, 0, none⟩) m cap := by
  rcases h.2 with ⟨_, h1⟩ | ⟨g, cap, cur, rfl, _⟩
  · omega
  · exact ⟨n, g, cap, rfl, rfl⟩

theorem ownsRow_mono {w : World} {base b : Nat} {e : TypeId} {s : Nat} {v : Value} {n : Nat} {xs : List Value} (h : w.ownsRow base e s v n xs) (hb : b ≤ base) : w.ownsRow b e s v n xs := by
  obtain ⟨h3, h4⟩ := h
  refine ⟨h3, ?_⟩
  rcases h4 with h4 | ⟨g, cap, cur, e, hg, h6⟩
  · exact .inl h4
  · exact .inr ⟨g, cap, cur, e, Nat.le_trans hb hg, h6⟩
/-- The column's bytes. -/
def coX (l : List (Int × List UInt8)) : List UInt8 := tab l.length (gX l)
def coY (l : List (Int × List UInt8)) (b : Nat) : List UInt8 := tab l.length (fun i => gB (gS l i).2 b)
/-- The column so far: its struct's block gc, its two rows. -/
structure Fill (wo : World) (gc t : Nat) (a b : List UInt8) (w : World) : Prop where
  ex : ∃ A1 n1 c1 A2 n2 c2, Blk w gc 81 #[.slice A1 n1 c1, .slice A2 n2 c2, .int .i64 (t : Int)] ∧ R2 wo.heap.size w (.slice A1 n1 c1) (.slice A2 n2 c2) a b
  kp : Kp (· = gc) wo w
theorem fill_end {wo w : World} {gc : Nat} {v1 v2 u1 u2 u3 : Value} {a b : List UInt8} (h : R2 wo.heap.size w v1 v2 a b) (hk : Blk w gc 81 #[u1, u2, u3]) (ho : Kp (· = gc) wo w) (hg : gc < wo.heap.size) :
    R2 wo.heap.size ((w.setCell ⟨gc, 0, none⟩ v1).setCell ⟨gc, 1, none⟩ v2) v1 v2 a b ∧ Blk ((w.setCell ⟨gc, 0, none⟩ v1).setCell ⟨gc, 1, none⟩ v2) gc 81 #[v1, v2, u3] ∧ Kp (· = gc) wo ((w.setCell ⟨gc, 0, none⟩ v1).setCell ⟨gc, 1, none⟩ v2) := by
  have hK : Kp (· = gc) w ((w.setCell ⟨gc, 0, none⟩ v1).setCell ⟨gc, 1, none⟩ v2) := Kp.set (S := (· = gc)) (Kp.set (S := (· = gc)) (Kp.refl _ _) (.inl rfl) _) (.inl rfl) _
  refine ⟨⟨Kp.own hK h.o1 (fun g hg' e => ?_), Kp.own hK h.o2 (fun g hg' e => ?_), h.d⟩, ?_, ho.trans hK⟩
  · have := (h.o1.lt g hg').1; omega
  · have := (h.o2.lt g hg').1; omega
  · exact (hk.set_ 0 v1).set_ 1 v2
theorem fill_next {wo w : World} {gc t k g1 n1 c1 g2 n2 c2 : Nat} {x y : UInt8} {cx cy : List UInt8} (h : R2 wo.heap.size w (.slice (some ⟨g1, 0, none⟩) n1 c1) (.slice (some ⟨g2, 0, none⟩) n2 c2) (cx.take k ++ [x]) (cy.take k ++ [y]) ∧ Blk w gc 81 #[.slice (some ⟨g1, 0, none⟩) n1 c1, .slice (some ⟨g2, 0, none⟩) n2 c2, .int .i64 (t : Int)] ∧ Kp (· = gc) wo w)
    (hx : cx.take k ++ [x] = cx.take (k + 1)) (hy : cy.take k ++ [y] = cy.take (k + 1)) : Fill wo gc t (cx.take (k + 1)) (cy.take (k + 1)) w := by
  obtain ⟨h1, h2, h3⟩ := h
  rw [hx, hy] at h1
  exact ⟨⟨_, _, _, _, _, _, h2, h1⟩, h3⟩

/-- The marks after b bytes; none if one of them cannot be marked. -/
def wrK (l : List (Int × List UInt8)) (t most : Nat) : Nat → Option (List Bool)
  | 0 => some (List.replicate l.length false)
  | b + 1 => match wrK l t most b with
    | none => none
    | some wl => if mkB (coX l) (coY l b) wl t most then some (mkK (coX l) (coY l b) (mkP (coX l) (coY l b) wl t most) wl l.length) else none
theorem wrK_len (l : List (Int × List UInt8)) (t most : Nat) : ∀ b wl, wrK l t most b = some wl → wl.length = l.length
  | 0, wl, h => by rw [wrK] at h; injection h with h; subst h; simp
  | b + 1, wl, h => by
    rw [wrK] at h
    cases e : wrK l t most b with
    | none => rw [e] at h; cases h
    | some wl' =>
      rw [e] at h
      simp only at h
      split at h
      · injection h with h; subst h; rw [mkK_length]; exact wrK_len l t most b wl' e
      · cases h
theorem wrK_none (l : List (Int × List UInt8)) (t most b : Nat) (h : wrK l t most b = none) : ∀ d, wrK l t most (b + d) = none
  | 0 => h
  | d + 1 => by rw [← Nat.add_assoc, wrK, wrK_none l t most b h d]
/-- The X of marked shares among the first k. -/
def reK (l : List (Int × List UInt8)) (wl : List Bool) : Nat → List Int
  | 0 => []
  | k + 1 => if gO wl k then reK l wl k ++ [(gS l k).1] else reK l wl k
theorem reK_len (l : List (Int × List UInt8)) (wl : List Bool) : ∀ k, (reK l wl k).length ≤ k
  | 0 => Nat.le_refl _
  | k + 1 => by have := reK_len l wl k; unfold reK; split <;> (try simp) <;> omega
/-- What Wrong finds. -/
def wrF (l : List (Int × List UInt8)) (t : Nat) : Option (List Int) :=
  match wrK l t ((l.length - t) / 2) (gS l 0).2.length with
  | none => none
  | some wl => if (l.length - t) / 2 < (reK l wl l.length).length then none else some (isort (reK l wl l.length))

theorem coX_dst {l : List (Int × List UInt8)} (hX : ∀ k, k < l.length → 1 ≤ (gS l k).1 ∧ (gS l k).1 ≤ 255) (hd : ∀ i j, j < i → i < l.length → (gS l j).1 ≠ (gS l i).1) : Py.Dst (coX l) := by
  intro i j hij hj
  rw [coX, tab_length] at hj
  rw [coX, gB_tab _ (by omega), gB_tab _ hj]
  intro e
  have h1 := hX i (by omega)
  have h2 := hX j hj
  have e1 := gX_eq (l := l) (k := i) (by omega) (by omega)
  have e2 := gX_eq (l := l) (k := j) (by omega) (by omega)
  exact hd j i hij hj (by rw [e1, e2, e])
theorem make_bools (n : Nat) (h : n ≤ 140737488355328) (w : World) :
    (Instr.makeSlice 79 (.int .i64 (n : Int)) (.int .i64 (n : Int))).run Try.prog w = .ok (.slice (some ⟨w.heap.size, 0, none⟩) n n) (w.alloc (.cells (boR (List.replicate n false)) 4)) := by
  obtain ⟨i, hi, hz, hs, hb⟩ := info_parts (show (Try.prog.info? 4).map (fun i => (i.zero, i.size, i.bytes)) = some (some (.bool false), 1, 1) by kernel_rfl)
  have hr := run_make (P := Try.prog) w 79 4 i _ Try.underlying79 hi hz .i64 .i64 n n (by omega) (by omega) (by rw [hb]; omega) (by omega)
  rw [hr, hs]
  simp only [Int.toNat_natCast, Value.cells, Nat.mul_one]
  rw [made_one]
  simp [boR]

/-- What Wrong returns. -/
def WrRet (z : Option (List Int)) (w : World) (e : Ending) (w' : World) : Prop :=
  Below w.heap.size w w' ∧ match z with
    | none => e = .returned (.tuple #[.slice none 0 0, .int .i64 9])
    | some z => ∃ v, e = .returned (.tuple #[v, .int .i64 0]) ∧ w'.ownsRow w.heap.size 3 1 v z.length (z.map (Value.int .i64))

set_option maxRecDepth 100000 in
set_option maxHeartbeats 4000000 in
theorem wrong_ok (A : Option Addr) (n c t : Nat) (l : List (Int × List UInt8)) (w : World) (h : SS w A n c l) (hs : shB l = true) (ht1 : 1 ≤ t) (ht2 : t ≤ 16) (htn : t ≤ n) :
    Calls Try.prog 19 #[.slice A n c, .int .i64 (t : Int)] w (WrRet (wrF l t) w) := by
  obtain ⟨sp1, sp2, sp3, sp4, sp5⟩ := shB_spec hs
  have HL := Lib.hid h.1
  have hn := h.len_le
  have hn64 : n ≤ 64 := by rw [← h.1]; exact sp1
  have H := Lib.hid h
  have HQ := Lib.hid sp2
  have HXR : Hid (∀ k, k < n → (gS l k).1 = bv (gX l k)) := Lib.hid (fun k hk => by have := sp4 k (by rw [h.1]; exact hk); exact gX_eq (by omega) (by omega))
  have HDS : Hid (Py.Dst (coX l)) := Lib.hid (coX_dst sp4 sp5)
  obtain ⟨L, hL⟩ : ∃ L, L = (gS l 0).2.length := ⟨_, rfl⟩
  rw [← hL] at HQ
  have HLE : Hid (L = (gS l 0).2.length) := Lib.hid hL
  have HS := Lib.hid hs
  obtain ⟨most, hmost⟩ : ∃ m, m = (n - t) / 2 := ⟨_, rfl⟩
  have HMO := Lib.hid hmost
  have sm : ((n : Int) - (t : Int)) / 2 = (most : Int) := by omega
  have hv : vT (t : Int) = true := vT_iff.2 ⟨by omega, by omega⟩
  have q0 : decide ((n : Int) < (t : Int)) = false := by simp; omega
  have q0' : decide (n < t) = false := by simp; omega
  clear h sp1 sp2 sp3 sp4 sp5 hs hL hmost
  have hmk := make_bools n (by omega)
  go_enter Try.func19, Try.ntmps19
  go_wp2_with fail
  refine (validShares_any _ _ _ _ _ H.out).mono ?_
  rintro e w1 ⟨rfl, hb1⟩
  have HB1 := Lib.hid hb1
  have H1 := Lib.hid (H.out.kept hb1)
  clear hb1
  rw [HS.out]
  go_wp2_with fail
  refine (validT_any _ _).mono ?_
  rintro e w' ⟨rfl, rfl⟩
  rw [hv]
  have hbA : Below w1.heap.size w1 (w1.alloc (.cells (boR (List.replicate n false)) 4)) := (Below.refl _ _).alloc (Nat.le_refl _) _
  have HBA := Lib.hid (below_then HB1.out hbA)
  have H2 := Lib.hid (H1.out.kept hbA)
  obtain ⟨g, o, A0, n0, c0, rfl, z1, z2, z3⟩ := H2.out.at_ (Below.refl _ _) (show 0 < n by omega)
  rw [Nat.zero_mul, Nat.add_zero] at z2
  obtain rfl : n0 = L := by rw [← z3.1]; exact HLE.out.symm
  have hL47 := z3.len_le
  clear hbA z1 z3
  go_wp2_with fail
  clear hmk z2 q0 q0' hv
  obtain ⟨gw, hgw⟩ : ∃ g, g = w1.heap.size := ⟨_, rfl⟩
  have HW0 : Hid (Blk (w1.alloc (.cells (boR (List.replicate n false)) 4)) gw 4 (boR (List.replicate l.length false))) := Lib.hid (by rw [hgw, HL.out]; exact Blk.new _ _ _)
  obtain ⟨w2, hw2⟩ : ∃ w2, w2 = w1.alloc (.cells (boR (List.replicate n false)) 4) := ⟨_, rfl⟩
  have hgb : w.heap.size ≤ gw := by rw [hgw]; exact HB1.out.size
  have hg2 : gw < w2.heap.size := by rw [hw2, hgw]; simp
  rw [← hw2, ← hgw]
  simp only [sm]
  rw [← hw2] at HBA HW0
  clear H1 H2 HB1 hw2 hgw sm
  have HWK0 : Hid (wrK l t most 0 = some (List.replicate l.length false)) := Lib.hid rfl
  go_loopw [40] (fun i wr => ∃ (b : Nat) (wl : List Bool), b ≤ n0 ∧ i = .int .i64 (b : Int) ∧ Hid (wrK l t most b = some wl) ∧ Hid (Blk wr gw 4 (boR wl)) ∧ Hid (Below w.heap.size w wr)) (fun i _ => n0 - (intOf i).toNat)
  case atStart => exact ⟨0, _, by omega, rfl, HWK0, HW0, HBA⟩
  case round =>
    obtain ⟨b, wl, hbL, rfl, hwk, hbw, hb⟩ := hrel
    have HWLN : Hid (wl.length = n) := Lib.hid (by rw [wrK_len l t most b wl hwk.out, HL.out])
    by_cases hlt : b < n0
    · obtain ⟨w3, rfl⟩ : ∃ w3, w3 = wr := ⟨_, rfl⟩
      have hbC : Below w3.heap.size w3 (w3.alloc (.cells #[.slice none 0 0, .slice none 0 0, .int .i64 (t : Int)] 81)) := (Below.refl _ _).alloc (Nat.le_refl _) _
      go_wp2_with fail
      obtain ⟨gc, hgc⟩ : ∃ g, g = w3.heap.size := ⟨_, rfl⟩
      obtain ⟨wo, hwo⟩ : ∃ wo, wo = w3.alloc (.cells #[.slice none 0 0, .slice none 0 0, .int .i64 (t : Int)] 81) := ⟨_, rfl⟩
      have GC : Hid (gc < wo.heap.size) := Lib.hid (by rw [hwo, hgc]; simp)
      have HF0 : Hid (Fill wo gc t ((coX l).take 0) ((coY l b).take 0) wo) := Lib.hid ⟨⟨none, 0, 0, none, 0, 0, by rw [hwo, hgc]; exact Blk.new _ _ _, R2.nil _ _⟩, Kp.refl _ _⟩
      rw [← hwo] at hbC
      have HOW : Hid (Below w.heap.size w wo) := Lib.hid (below_then hb.out hbC)
      have HGWO : Hid (Blk wo gw 4 (boR wl)) := Lib.hid (hbw.out.kept hbC)
      have hgcw : gc ≠ gw := by rw [hgc]; have := hbw.out.lt; omega
      have hgwo : gw < wo.heap.size := HGWO.out.lt
      have hwgc : w.heap.size ≤ gc := by rw [hgc]; exact hb.out.size
      rw [← hwo, ← hgc]
      clear hbC hwo hgc hb hbw
      obtain ⟨cx, hcx⟩ : ∃ cx, cx = coX l := ⟨_, rfl⟩
      obtain ⟨cy, hcy⟩ : ∃ cy, cy = coY l b := ⟨_, rfl⟩
      rw [← hcx, ← hcy] at HF0
      have HCX0 : Hid (∀ k, k < n → cx.take k ++ [gX l k] = cx.take (k + 1)) := Lib.hid (fun k hk => by
        have h1 : k < cx.length := by rw [hcx, coX, tab_length, HL.out]; exact hk
        rw [List.take_succ_eq_append_getElem h1, ← gB_eq h1, hcx, coX, gB_tab _ (by rw [HL.out]; exact hk)])
      have HCY0 : Hid (∀ k, k < n → cy.take k ++ [gB (gS l k).2 b] = cy.take (k + 1)) := Lib.hid (fun k hk => by
        have h1 : k < cy.length := by rw [hcy, coY, tab_length, HL.out]; exact hk
        rw [List.take_succ_eq_append_getElem h1, ← gB_eq h1, hcy, coY, gB_tab _ (by rw [HL.out]; exact hk)])
      have HCXE := Lib.hid hcx
      have HCYE := Lib.hid hcy
      clear hcx hcy
      go_loopw [47] (fun i wr => ∃ k : Nat, k ≤ n ∧ i = .int .i64 (k : Int) ∧ Hid (Fill wo gc t (cx.take k) (cy.take k) wr)) (fun i _ => n - (intOf i).toNat)
      case atStart => exact ⟨0, by omega, rfl, HF0⟩
      case round =>
        obtain ⟨k, hk, rfl, hfill⟩ := hrel
        have hbw : Below w.heap.size w wr := HOW.out.trans (hfill.out.kp.below HOW.out.size (fun q e => by rw [e]; exact hwgc))
        by_cases hkn : k < n
        · obtain ⟨g', o', Ad, nd, cd, e', y1, y2, y3⟩ := H.out.at_ hbw hkn
          cases Option.some.inj e'
          rw [HXR.out k hkn] at y1
          obtain rfl : nd = n0 := by rw [← y3.1]; exact HQ.out k (by rw [HL.out]; exact hkn)
          obtain ⟨gd, od, rfl, y4⟩ := y3.at_ (Below.refl _ _) hlt
          have HGD : Hid (gd < w.heap.size) := Lib.hid (by
            obtain ⟨g2', o2', Ad2, nd2, cd2, e2', _, y22, y23⟩ := H.out.at_ (Below.refl _ _) hkn
            cases Option.some.inj e2'
            have y24 := cell_kept hbw y22
            rw [y2] at y24
            have e5 := Option.some.inj y24
            injection e5 with e6 e7 e8
            subst e7
            obtain ⟨g3, o3, e3, hc3⟩ := y23.2.2.2 b hlt
            rw [← e6] at e3
            cases Option.some.inj e3
            exact cell_lt hc3)
          obtain ⟨⟨A1, n1, c1, A2, n2, c2, hk0, hr0⟩, hkp0⟩ := hfill.out
          have HX := Lib.hid (HCX0.out k hkn)
          have HY := Lib.hid (HCY0.out k hkn)
          obtain ⟨x, hx⟩ : ∃ x, x = gX l k := ⟨_, rfl⟩
          obtain ⟨y, hy⟩ : ∃ y, y = gB (gS l k).2 b := ⟨_, rfl⟩
          rw [← hx] at y1 HX
          rw [← hy] at y4 HY
          obtain ⟨gs, hgs⟩ : ∃ g, g = wr.heap.size := ⟨_, rfl⟩
          have G1 : Hid (∀ q, (Value.slice A1 n1 c1).ownBlock = some q → q ≠ gs) := Lib.hid (fun q h => by have := (hr0.o1.lt q h).2; omega)
          have G2 : Hid (∀ q, (Value.slice A2 n2 c2).ownBlock = some q → q ≠ gs) := Lib.hid (fun q h => by have := (hr0.o2.lt q h).2; omega)
          have hgso : wo.heap.size ≤ gs := by rw [hgs]; exact hkp0.size
          have HLL : Hid ((cx.take k).length ≤ 64 ∧ (cy.take k).length ≤ 64) := Lib.hid (by have h1 := List.length_take_le k cx; have h2 := List.length_take_le k cy; omega)
          have hbS : Below wr.heap.size wr (wr.alloc (.cells #[.int .i64 (bv x), .slice (some ⟨gd, od, none⟩) nd cd] 33)) := (Below.refl _ _).alloc (Nat.le_refl _) _
          have Y1 := Lib.hid y1
          have Y2 := Lib.hid y2
          have Y4 := Lib.hid y4
          clear hx hy y3 y4 hfill
          go_wp2_with fail
          clear y1 y2 Y1 Y2
          obtain ⟨wd, hwd⟩ : ∃ wd : World, wd = (wr.alloc (.cells #[.int .i64 (bv x), .slice (some ⟨gd, od, none⟩) nd cd] 33)).drew := ⟨_, rfl⟩
          have hbd : Below wr.heap.size wr wd := by rw [hwd]; exact hbS.drew
          have Z0 : Hid (Blk wd gc 81 #[.slice A1 n1 c1, .slice A2 n2 c2, .int .i64 (t : Int)]) := Lib.hid (hk0.kept hbd)
          have hsb : Blk wd gs 33 #[.int .i64 (bv x), .slice (some ⟨gd, od, none⟩) nd cd] := by rw [hwd, hgs]; exact (Blk.new wr _ _).drew
          have s1 : wd.cell? ⟨gc, 0, none⟩ = some (.slice A1 n1 c1) := by rw [Z0.out.cell]; rfl
          have s2 : wd.cell? ⟨gc, 1, none⟩ = some (.slice A2 n2 c2) := by rw [Z0.out.cell]; rfl
          have s3 : wd.cell? ⟨gs, 0, none⟩ = some (.int .i64 (bv x)) := by rw [hsb.cell]; rfl
          have s4 : wd.cell? ⟨gs, 1, none⟩ = some (.slice (some ⟨gd, od, none⟩) nd cd) := by rw [hsb.cell]; rfl
          have s5 : wd.cell? ⟨gd, od + b, none⟩ = some (B y) := cell_kept hbd Y4.out
          have Z1 := Lib.hid s1
          have Z2 := Lib.hid s2
          have Z3 := Lib.hid s3
          have Z4 := Lib.hid s4
          have Z5 := Lib.hid s5
          have hgdw := HGD.out
          have hwwo := HOW.out.size
          have hgcwo := GC.out
          have N1 : Hid (¬ (wo.heap.size ≤ gc ∧ gc ≠ gs)) := Lib.hid (by omega)
          have N2 : Hid (¬ (wo.heap.size ≤ gs ∧ gs ≠ gs)) := Lib.hid (by omega)
          have N3 : Hid (¬ (wo.heap.size ≤ gd ∧ gd ≠ gs)) := Lib.hid (by omega)
          have HCwd : Hid (R2 wo.heap.size wd (.slice A1 n1 c1) (.slice A2 n2 c2) (cx.take k) (cy.take k)) := Lib.hid (hr0.kept hbd)
          have HKwd : Hid (Kp (fun b => wo.heap.size ≤ b ∧ b ≠ gs) wd wd) := Lib.hid (Kp.refl _ _)
          have HOwd : Hid (Kp (· = gc) wo wd) := Lib.hid (hkp0.then hbd)
          clear hk0 hr0 hkp0 hsb hbd hbS Y4 hgdw hwwo hgcwo
          rw [← hgs]
          clear hgs
          refine Text.wp_region_bt (fun w' => w'.cell? ⟨gc, 0, none⟩ = some (.slice A1 n1 c1) ∧ w'.cell? ⟨gc, 1, none⟩ = some (.slice A2 n2 c2) ∧ w'.cell? ⟨gs, 0, none⟩ = some (.int .i64 (bv x)) ∧ w'.cell? ⟨gs, 1, none⟩ = some (.slice (some ⟨gd, od, none⟩) nd cd) ∧ w'.cell? ⟨gd, od + b, none⟩ = some (B y)) (.still 0 4 (.still 2 4 (.still 7 4 (.still 9 4 (.still 11 4 (.still 1 0 (.still 3 0 (.still 4 4 (.still 8 0 (.still 10 0 (.still 12 4 (.still 13 0 (.br 5 (.br 6 (.eff 14 (.eff 15 (.still 16 4 (.last 17 (.still 18 4 (.last 19 .leaf)))))) 14 (.eff 6 (.eff 15 (.still 16 4 (.last 17 (.still 18 4 (.last 19 .leaf))))))) 14 (.eff 5 (.eff 6 (.eff 15 (.still 16 4 (.last 17 (.still 18 4 (.last 19 .leaf)))))))))))))))))))) (by kernel_rfl) (by kernel_rfl) (fun _ _ _ _ _ h => h) ((by rw [← hwd]; exact ⟨s1, s2, s3, s4, s5⟩)) ?_
          rw [← hwd]
          clear hwd
          iterate 5 (refine Text.bpurek rfl rfl (fun K hK => ⟨_, fun w' => by go_simp <;> rfl, ?_⟩); go_simp; refine hK _ ?_; clear hK K)
          (refine Text.bheldk rfl rfl (fun K hK => ⟨_, fun w' hw' => by have h9 := hw'.1; go_simp <;> rfl, ?_⟩); go_simp; refine hK _ ?_; clear hK K)
          (refine Text.bheldk rfl rfl (fun K hK => ⟨_, fun w' hw' => by have h9 := hw'.2.2.1; go_simp <;> rfl, ?_⟩); go_simp; refine hK _ ?_; clear hK K)
          (refine Text.bpurek rfl rfl (fun K hK => ⟨_, fun w' => by go_simp <;> rfl, ?_⟩); go_simp; refine hK _ ?_; clear hK K)
          (refine Text.bheldk rfl rfl (fun K hK => ⟨_, fun w' hw' => by have h9 := hw'.2.1; go_simp <;> rfl, ?_⟩); go_simp; refine hK _ ?_; clear hK K)
          (refine Text.bheldk rfl rfl (fun K hK => ⟨_, fun w' hw' => by have h9 := hw'.2.2.2.1; go_simp <;> rfl, ?_⟩); go_simp; refine hK _ ?_; clear hK K)
          (refine Text.bpurek rfl rfl (fun K hK => ⟨_, fun w' => by go_simp <;> rfl, ?_⟩); go_simp; refine hK _ ?_; clear hK K)
          (refine Text.bheldk rfl rfl (fun K hK => ⟨_, fun w' hw' => by have h9 := hw'.2.2.2.2; go_simp <;> rfl, ?_⟩); go_simp; refine hK _ ?_; clear hK K)
          clear s1 s2 s3 s4 s5
          refine Text.bfork ?_ ?_
          · refine Text.beff rfl rfl (fun K hK => ?_)
            go_simp
            obtain ⟨gA, hggA⟩ : ∃ g, g = wd.heap.size := ⟨_, rfl⟩
            obtain ⟨wa1, hwwa1⟩ : ∃ w' : World, w' = wd.alloc (.cells #[B (x)] 5) := ⟨_, rfl⟩
            have kbwa1 : Below wd.heap.size wd wa1 := by rw [hwwa1]; exact (Below.refl _ _).alloc (Nat.le_refl _) _
            have HgAwa1 : Hid (Blk wa1 gA 5 #[B (x)]) := Lib.hid (by rw [hwwa1, hggA]; exact Blk.new _ _ _)
            have HCwa1 := Lib.hid (HCwd.out.kept kbwa1)
            have HKwa1 := Lib.hid (HKwd.out.then kbwa1)
            have HOwa1 := Lib.hid (HOwd.out.then kbwa1)
            rw [← hwwa1, ← hggA]
            refine hK _ _ (⟨HKwa1.out.cell Z1.out N1.out, HKwa1.out.cell Z2.out N1.out, HKwa1.out.cell Z3.out N2.out, HKwa1.out.cell Z4.out N2.out, HKwa1.out.cell Z5.out N3.out⟩) ?_
            clear hK K kbwa1 hwwa1 hggA
            refine Text.bfork ?_ ?_
            · refine Text.beff rfl rfl (fun K hK => ?_)
              refine wp_app1 wa1 (.tmp 52) (.tmp 56) 22 5 (.int .u8 0) 1 Try.underlying22 infoU8 rfl rfl wo.heap.size (.slice A1 n1 c1) (cx.take k).length ((cx.take k).map B) rfl HCwa1.out.o1 gA 1 5 (B (x)) rfl HgAwa1.out rfl (by have := HLL.out; omega) (by have := HLL.out; omega) HOwa1.out.size ?_
              intro va2 wa2 hpwa2
              have HCwa2 := Lib.hid (HCwa1.out.app1 hpwa2)
              have HKwa2 := Lib.hid (HKwa1.out.grown hpwa2.2.1 (fun q hq => .inl ⟨own_base HCwa1.out.o1 q hq, G1.out q hq⟩))
              have HOwa2 := Lib.hid (HOwa1.out.grown hpwa2.2.1 (fun q hq => .inr (own_base HCwa1.out.o1 q hq)))
              refine hK _ _ (⟨HKwa2.out.cell Z1.out N1.out, HKwa2.out.cell Z2.out N1.out, HKwa2.out.cell Z3.out N2.out, HKwa2.out.cell Z4.out N2.out, HKwa2.out.cell Z5.out N3.out⟩) ?_
              clear hK K hpwa2
              refine Text.beff rfl rfl (fun K hK => ?_)
              go_simp
              obtain ⟨gS, hggS⟩ : ∃ g, g = wa2.heap.size := ⟨_, rfl⟩
              obtain ⟨wa3, hwwa3⟩ : ∃ w' : World, w' = wa2.alloc (.cells #[B (y)] 5) := ⟨_, rfl⟩
              have kbwa3 : Below wa2.heap.size wa2 wa3 := by rw [hwwa3]; exact (Below.refl _ _).alloc (Nat.le_refl _) _
              have HgSwa3 : Hid (Blk wa3 gS 5 #[B (y)]) := Lib.hid (by rw [hwwa3, hggS]; exact Blk.new _ _ _)
              have HCwa3 := Lib.hid (HCwa2.out.kept kbwa3)
              have HKwa3 := Lib.hid (HKwa2.out.then kbwa3)
              have HOwa3 := Lib.hid (HOwa2.out.then kbwa3)
              rw [← hwwa3, ← hggS]
              refine hK _ _ (⟨HKwa3.out.cell Z1.out N1.out, HKwa3.out.cell Z2.out N1.out, HKwa3.out.cell Z3.out N2.out, HKwa3.out.cell Z4.out N2.out, HKwa3.out.cell Z5.out N3.out⟩) ?_
              clear hK K kbwa3 hwwa3 hggS
              refine Text.beff rfl rfl (fun K hK => ?_)
              refine wp_app1 wa3 (.tmp 59) (.tmp 65) 22 5 (.int .u8 0) 1 Try.underlying22 infoU8 rfl rfl wo.heap.size (.slice A2 n2 c2) (cy.take k).length ((cy.take k).map B) rfl HCwa3.out.o2 gS 1 5 (B (y)) rfl HgSwa3.out rfl (by have := HLL.out; omega) (by have := HLL.out; omega) HOwa3.out.size ?_
              intro va4 wa4 hpwa4
              have HCwa4 := Lib.hid (HCwa3.out.app2 hpwa4)
              have HKwa4 := Lib.hid (HKwa3.out.grown hpwa4.2.1 (fun q hq => .inl ⟨own_base HCwa3.out.o2 q hq, G2.out q hq⟩))
              have HOwa4 := Lib.hid (HOwa3.out.grown hpwa4.2.1 (fun q hq => .inr (own_base HCwa3.out.o2 q hq)))
              refine hK _ _ (⟨HKwa4.out.cell Z1.out N1.out, HKwa4.out.cell Z2.out N1.out, HKwa4.out.cell Z3.out N2.out, HKwa4.out.cell Z4.out N2.out, HKwa4.out.cell Z5.out N3.out⟩) ?_
              clear hK K hpwa4
              obtain ⟨mp, gp, capp, hmp, rfl⟩ := own_form (by simp) HCwa4.out.o1
              obtain ⟨mq, gq, capq, hmq, rfl⟩ := own_form (by simp) HCwa4.out.o2
              have hkc := HKwa4.out.blk Z0.out N1.out
              have f0 := hkc.frozen 0
              have f1 := hkc.frozen 1
              have e0 : wa4.cell? ⟨gc, 0, none⟩ = some (.slice A1 n1 c1) := by rw [hkc.cell]; rfl
              have e1 : wa4.cell? ⟨gc, 1, none⟩ = some (.slice A2 n2 c2) := by rw [hkc.cell]; rfl
              have HZ := Lib.hid (fill_end HCwa4.out hkc HOwa4.out GC.out)
              clear hkc hmp hmq
              (refine Text.bpurek rfl rfl (fun K hK => ⟨_, fun w' => by go_simp <;> rfl, ?_⟩); go_simp; refine hK _ ?_; clear hK K)
              refine Text.blast rfl rfl (fun K hK => ?_)
              go_simp
              refine hK _ _ ?_
              clear hK K
              (refine Text.bpurek rfl rfl (fun K hK => ⟨_, fun w' => by go_simp <;> rfl, ?_⟩); go_simp; refine hK _ ?_; clear hK K)
              refine Text.blast rfl rfl (fun K hK => ?_)
              go_simp
              refine hK _ _ ?_
              clear hK K
              refine Text.bdone ?_
              clear e0 e1 f0 f1
              go_wp2_with fail
              go_roundw
              case rel => exact ⟨k + 1, by omega, by go_num, Lib.hid (fill_next HZ.out HX.out HY.out)⟩
              case measure => simp [intOf]; omega
            · refine Text.beff rfl rfl (fun K hK => ?_)
              go_simp
              obtain ⟨gS, hggS⟩ : ∃ g, g = wa1.heap.size := ⟨_, rfl⟩
              obtain ⟨wb2, hwwb2⟩ : ∃ w' : World, w' = wa1.alloc (.cells #[B (y)] 5) := ⟨_, rfl⟩
              have kbwb2 : Below wa1.heap.size wa1 wb2 := by rw [hwwb2]; exact (Below.refl _ _).alloc (Nat.le_refl _) _
              have HgSwb2 : Hid (Blk wb2 gS 5 #[B (y)]) := Lib.hid (by rw [hwwb2, hggS]; exact Blk.new _ _ _)
              have HgAwb2 := Lib.hid (HgAwa1.out.kept kbwb2)
              have HCwb2 := Lib.hid (HCwa1.out.kept kbwb2)
              have HKwb2 := Lib.hid (HKwa1.out.then kbwb2)
              have HOwb2 := Lib.hid (HOwa1.out.then kbwb2)
              have HLgSwb2 : Hid (∀ q, (Value.slice A1 n1 c1).ownBlock = some q → q < gS) := Lib.hid (fun q h => by have := (HCwa1.out.o1.lt q h).2; omega)
              rw [← hwwb2, ← hggS]
              refine hK _ _ (⟨HKwb2.out.cell Z1.out N1.out, HKwb2.out.cell Z2.out N1.out, HKwb2.out.cell Z3.out N2.out, HKwb2.out.cell Z4.out N2.out, HKwb2.out.cell Z5.out N3.out⟩) ?_
              clear hK K kbwb2 hwwb2 hggS
              refine Text.beff rfl rfl (fun K hK => ?_)
              refine wp_app1 wb2 (.tmp 52) (.tmp 56) 22 5 (.int .u8 0) 1 Try.underlying22 infoU8 rfl rfl wo.heap.size (.slice A1 n1 c1) (cx.take k).length ((cx.take k).map B) rfl HCwb2.out.o1 gA 1 5 (B (x)) rfl HgAwb2.out rfl (by have := HLL.out; omega) (by have := HLL.out; omega) HOwb2.out.size ?_
              intro vb3 wb3 hpwb3
              have HCwb3 := Lib.hid (HCwb2.out.app1 hpwb3)
              have HKwb3 := Lib.hid (HKwb2.out.grown hpwb3.2.1 (fun q hq => .inl ⟨own_base HCwb2.out.o1 q hq, G1.out q hq⟩))
              have HOwb3 := Lib.hid (HOwb2.out.grown hpwb3.2.1 (fun q hq => .inr (own_base HCwb2.out.o1 q hq)))
              have HgSwb3 := Lib.hid (grown_blk hpwb3.2.1 HgSwb2.out (fun e => by have := HLgSwb2.out _ e; omega))
              refine hK _ _ (⟨HKwb3.out.cell Z1.out N1.out, HKwb3.out.cell Z2.out N1.out, HKwb3.out.cell Z3.out N2.out, HKwb3.out.cell Z4.out N2.out, HKwb3.out.cell Z5.out N3.out⟩) ?_
              clear hK K hpwb3
              refine Text.beff rfl rfl (fun K hK => ?_)
              refine wp_app1 wb3 (.tmp 59) (.tmp 65) 22 5 (.int .u8 0) 1 Try.underlying22 infoU8 rfl rfl wo.heap.size (.slice A2 n2 c2) (cy.take k).length ((cy.take k).map B) rfl HCwb3.out.o2 gS 1 5 (B (y)) rfl HgSwb3.out rfl (by have := HLL.out; omega) (by have := HLL.out; omega) HOwb3.out.size ?_
              intro vb4 wb4 hpwb4
              have HCwb4 := Lib.hid (HCwb3.out.app2 hpwb4)
              have HKwb4 := Lib.hid (HKwb3.out.grown hpwb4.2.1 (fun q hq => .inl ⟨own_base HCwb3.out.o2 q hq, G2.out q hq⟩))
              have HOwb4 := Lib.hid (HOwb3.out.grown hpwb4.2.1 (fun q hq => .inr (own_base HCwb3.out.o2 q hq)))
              refine hK _ _ (⟨HKwb4.out.cell Z1.out N1.out, HKwb4.out.cell Z2.out N1.out, HKwb4.out.cell Z3.out N2.out, HKwb4.out.cell Z4.out N2.out, HKwb4.out.cell Z5.out N3.out⟩) ?_
              clear hK K hpwb4
              obtain ⟨mp, gp, capp, hmp, rfl⟩ := own_form (by simp) HCwb4.out.o1
              obtain ⟨mq, gq, capq, hmq, rfl⟩ := own_form (by simp) HCwb4.out.o2
              have hkc := HKwb4.out.blk Z0.out N1.out
              have f0 := hkc.frozen 0
              have f1 := hkc.frozen 1
              have e0 : wb4.cell? ⟨gc, 0, none⟩ = some (.slice A1 n1 c1) := by rw [hkc.cell]; rfl
              have e1 : wb4.cell? ⟨gc, 1, none⟩ = some (.slice A2 n2 c2) := by rw [hkc.cell]; rfl
              have HZ := Lib.hid (fill_end HCwb4.out hkc HOwb4.out GC.out)
              clear hkc hmp hmq
              (refine Text.bpurek rfl rfl (fun K hK => ⟨_, fun w' => by go_simp <;> rfl, ?_⟩); go_simp; refine hK _ ?_; clear hK K)
              refine Text.blast rfl rfl (fun K hK => ?_)
              go_simp
              refine hK _ _ ?_
              clear hK K
              (refine Text.bpurek rfl rfl (fun K hK => ⟨_, fun w' => by go_simp <;> rfl, ?_⟩); go_simp; refine hK _ ?_; clear hK K)
              refine Text.blast rfl rfl (fun K hK => ?_)
              go_simp
              refine hK _ _ ?_
              clear hK K
              refine Text.bdone ?_
              clear e0 e1 f0 f1
              go_wp2_with fail
              go_roundw
              case rel => exact ⟨k + 1, by omega, by go_num, Lib.hid (fill_next HZ.out HX.out HY.out)⟩
              case measure => simp [intOf]; omega
          · refine Text.beff rfl rfl (fun K hK => ?_)
            go_simp
            obtain ⟨gS, hggS⟩ : ∃ g, g = wd.heap.size := ⟨_, rfl⟩
            obtain ⟨wc1, hwwc1⟩ : ∃ w' : World, w' = wd.alloc (.cells #[B (y)] 5) := ⟨_, rfl⟩
            have kbwc1 : Below wd.heap.size wd wc1 := by rw [hwwc1]; exact (Below.refl _ _).alloc (Nat.le_refl _) _
            have HgSwc1 : Hid (Blk wc1 gS 5 #[B (y)]) := Lib.hid (by rw [hwwc1, hggS]; exact Blk.new _ _ _)
            have HCwc1 := Lib.hid (HCwd.out.kept kbwc1)
            have HKwc1 := Lib.hid (HKwd.out.then kbwc1)
            have HOwc1 := Lib.hid (HOwd.out.then kbwc1)
            have HLgSwc1 : Hid (∀ q, (Value.slice A1 n1 c1).ownBlock = some q → q < gS) := Lib.hid (fun q h => by have := (HCwd.out.o1.lt q h).2; omega)
            rw [← hwwc1, ← hggS]
            refine hK _ _ (⟨HKwc1.out.cell Z1.out N1.out, HKwc1.out.cell Z2.out N1.out, HKwc1.out.cell Z3.out N2.out, HKwc1.out.cell Z4.out N2.out, HKwc1.out.cell Z5.out N3.out⟩) ?_
            clear hK K kbwc1 hwwc1 hggS
            refine Text.beff rfl rfl (fun K hK => ?_)
            go_simp
            obtain ⟨gA, hggA⟩ : ∃ g, g = wc1.heap.size := ⟨_, rfl⟩
            obtain ⟨wc2, hwwc2⟩ : ∃ w' : World, w' = wc1.alloc (.cells #[B (x)] 5) := ⟨_, rfl⟩
            have kbwc2 : Below wc1.heap.size wc1 wc2 := by rw [hwwc2]; exact (Below.refl _ _).alloc (Nat.le_refl _) _
            have HgAwc2 : Hid (Blk wc2 gA 5 #[B (x)]) := Lib.hid (by rw [hwwc2, hggA]; exact Blk.new _ _ _)
            have HgSwc2 := Lib.hid (HgSwc1.out.kept kbwc2)
            have HCwc2 := Lib.hid (HCwc1.out.kept kbwc2)
            have HKwc2 := Lib.hid (HKwc1.out.then kbwc2)
            have HOwc2 := Lib.hid (HOwc1.out.then kbwc2)
            rw [← hwwc2, ← hggA]
            refine hK _ _ (⟨HKwc2.out.cell Z1.out N1.out, HKwc2.out.cell Z2.out N1.out, HKwc2.out.cell Z3.out N2.out, HKwc2.out.cell Z4.out N2.out, HKwc2.out.cell Z5.out N3.out⟩) ?_
            clear hK K kbwc2 hwwc2 hggA
            refine Text.beff rfl rfl (fun K hK => ?_)
            refine wp_app1 wc2 (.tmp 52) (.tmp 56) 22 5 (.int .u8 0) 1 Try.underlying22 infoU8 rfl rfl wo.heap.size (.slice A1 n1 c1) (cx.take k).length ((cx.take k).map B) rfl HCwc2.out.o1 gA 1 5 (B (x)) rfl HgAwc2.out rfl (by have := HLL.out; omega) (by have := HLL.out; omega) HOwc2.out.size ?_
            intro vc3 wc3 hpwc3
            have HCwc3 := Lib.hid (HCwc2.out.app1 hpwc3)
            have HKwc3 := Lib.hid (HKwc2.out.grown hpwc3.2.1 (fun q hq => .inl ⟨own_base HCwc2.out.o1 q hq, G1.out q hq⟩))
            have HOwc3 := Lib.hid (HOwc2.out.grown hpwc3.2.1 (fun q hq => .inr (own_base HCwc2.out.o1 q hq)))
            have HgSwc3 := Lib.hid (grown_blk hpwc3.2.1 HgSwc2.out (fun e => by have := HLgSwc1.out _ e; omega))
            refine hK _ _ (⟨HKwc3.out.cell Z1.out N1.out, HKwc3.out.cell Z2.out N1.out, HKwc3.out.cell Z3.out N2.out, HKwc3.out.cell Z4.out N2.out, HKwc3.out.cell Z5.out N3.out⟩) ?_
            clear hK K hpwc3
            refine Text.beff rfl rfl (fun K hK => ?_)
            refine wp_app1 wc3 (.tmp 59) (.tmp 65) 22 5 (.int .u8 0) 1 Try.underlying22 infoU8 rfl rfl wo.heap.size (.slice A2 n2 c2) (cy.take k).length ((cy.take k).map B) rfl HCwc3.out.o2 gS 1 5 (B (y)) rfl HgSwc3.out rfl (by have := HLL.out; omega) (by have := HLL.out; omega) HOwc3.out.size ?_
            intro vc4 wc4 hpwc4
            have HCwc4 := Lib.hid (HCwc3.out.app2 hpwc4)
            have HKwc4 := Lib.hid (HKwc3.out.grown hpwc4.2.1 (fun q hq => .inl ⟨own_base HCwc3.out.o2 q hq, G2.out q hq⟩))
            have HOwc4 := Lib.hid (HOwc3.out.grown hpwc4.2.1 (fun q hq => .inr (own_base HCwc3.out.o2 q hq)))
            refine hK _ _ (⟨HKwc4.out.cell Z1.out N1.out, HKwc4.out.cell Z2.out N1.out, HKwc4.out.cell Z3.out N2.out, HKwc4.out.cell Z4.out N2.out, HKwc4.out.cell Z5.out N3.out⟩) ?_
            clear hK K hpwc4
            obtain ⟨mp, gp, capp, hmp, rfl⟩ := own_form (by simp) HCwc4.out.o1
            obtain ⟨mq, gq, capq, hmq, rfl⟩ := own_form (by simp) HCwc4.out.o2
            have hkc := HKwc4.out.blk Z0.out N1.out
            have f0 := hkc.frozen 0
            have f1 := hkc.frozen 1
            have e0 : wc4.cell? ⟨gc, 0, none⟩ = some (.slice A1 n1 c1) := by rw [hkc.cell]; rfl
            have e1 : wc4.cell? ⟨gc, 1, none⟩ = some (.slice A2 n2 c2) := by rw [hkc.cell]; rfl
            have HZ := Lib.hid (fill_end HCwc4.out hkc HOwc4.out GC.out)
            clear hkc hmp hmq
            (refine Text.bpurek rfl rfl (fun K hK => ⟨_, fun w' => by go_simp <;> rfl, ?_⟩); go_simp; refine hK _ ?_; clear hK K)
            refine Text.blast rfl rfl (fun K hK => ?_)
            go_simp
            refine hK _ _ ?_
            clear hK K
            (refine Text.bpurek rfl rfl (fun K hK => ⟨_, fun w' => by go_simp <;> rfl, ?_⟩); go_simp; refine hK _ ?_; clear hK K)
            refine Text.blast rfl rfl (fun K hK => ?_)
            go_simp
            refine hK _ _ ?_
            clear hK K
            refine Text.bdone ?_
            clear e0 e1 f0 f1
            go_wp2_with fail
            go_roundw
            case rel => exact ⟨k + 1, by omega, by go_num, Lib.hid (fill_next HZ.out HX.out HY.out)⟩
            case measure => simp [intOf]; omega
        · obtain rfl : k = n := by omega
          obtain ⟨⟨A1, n1, c1, A2, n2, c2, hk0, hr0⟩, hkp0⟩ := hfill.out
          have HLX : Hid (cx.length = k) := Lib.hid (by rw [HCXE.out, coX, tab_length, HL.out])
          have HLY : Hid (cy.length = k) := Lib.hid (by rw [HCYE.out, coY, tab_length, HL.out])
          rw [List.take_of_length_le (by rw [HLX.out]; exact Nat.le_refl _), List.take_of_length_le (by rw [HLY.out]; exact Nat.le_refl _)] at hr0
          have o1 := hr0.o1
          have o2 := hr0.o2
          rw [HLX.out] at o1
          rw [HLY.out] at o2
          obtain ⟨A1', c1', e1, b1⟩ := BS.of_own o1 (by unfold lim; omega)
          injection e1 with e11 e12 e13
          subst e11 e12 e13
          obtain ⟨A2', c2', e2, b2⟩ := BS.of_own o2 (by unfold lim; omega)
          injection e2 with e21 e22 e23
          subst e21 e22 e23
          have HCol : Hid (Col wr gc A1 A2 n2 c1 c2 t cx cy) := Lib.hid ⟨by rw [hk0.cell]; rfl, by rw [hk0.cell]; rfl, by rw [hk0.cell]; rfl, b1, b2⟩
          have HA1 : Hid (AtB A1 (· ≠ gw)) := Lib.hid (fun a e => by subst e; have := (o1.lt a.block rfl).1; omega)
          have HA2 : Hid (AtB A2 (· ≠ gw)) := Lib.hid (fun a e => by subst e; have := (o2.lt a.block rfl).1; omega)
          have HWW : Hid (Blk wr gw 4 (boR wl)) := Lib.hid (hkp0.blk HGWO.out (fun e => hgcw e.symm))
          have HDSC : Hid (Py.Dst cx) := Lib.hid (by rw [HCXE.out]; exact HDS.out)
          have HBW := Lib.hid hbw
          clear hk0 hr0 hkp0 hfill o1 o2 b1 b2 hbw
          go_wp2_with fail
          refine (mark_any gc gw A1 A2 n2 c1 c2 t most _ cx cy wl wr HCol.out HWW.out HWLN.out (by omega) (by omega) HDSC.out hgcw HA1.out HA2.out).mono ?_
          rintro e w5 ⟨rfl, h51, h52⟩
          have HB5 : Hid (Below w.heap.size w w5) := Lib.hid (HBW.out.trans (h52.below HBW.out.size (fun q e => by rw [e]; exact hgb)))
          have HWS : Hid (wrK l t most (b + 1) = if mkB cx cy wl t most then some (mkK cx cy (mkP cx cy wl t most) wl n2) else none) := Lib.hid (by
            rw [wrK, hwk.out, ← HCXE.out, ← HCYE.out, HL.out])
          cases hmb : mkB cx cy wl t most with
          | true =>
            rw [hmb] at HWS h51
            have HW5 := Lib.hid (h51 rfl)
            have HWS' : Hid (wrK l t most (b + 1) = some (mkK cx cy (mkP cx cy wl t most) wl n2)) := HWS
            clear h51 h52 HWS
            go_wp2_with fail
            go_roundw
            case rel => exact ⟨b + 1, _, by omega, by go_num, HWS', HW5, HB5⟩
            case measure => simp [intOf]; omega
          | false =>
            rw [hmb] at HWS
            have HNO : Hid (wrF l t = none) := Lib.hid (by
              have h1 : wrK l t most n0 = none := by
                have := wrK_none l t most (b + 1) HWS.out (n0 - (b + 1))
                rw [show b + 1 + (n0 - (b + 1)) = n0 by omega] at this
                exact this
              unfold wrF
              rw [HL.out, ← HMO.out, ← HLE.out, h1])
            clear h51 h52 HWS
            go_wp2_with fail
            go_ret2
            rw [HNO.out]
            exact ⟨HB5.out, rfl⟩
    · obtain rfl : b = n0 := by omega
      have HWF : Hid (wrF l t = if most < (reK l wl n).length then none else some (isort (reK l wl n))) := Lib.hid (by
        unfold wrF
        rw [HL.out, ← HMO.out, ← HLE.out, hwk.out])
      obtain ⟨wz, rfl⟩ : ∃ wz, wz = wr := ⟨_, rfl⟩
      go_wp2_with fail
      go_loopw [12, 77] (fun v i wr => ∃ (k q : Nat) (A : Option Addr) (c : Nat), k ≤ n ∧ i = .int .i64 (k : Int) ∧ v = .slice A q c ∧ q ≤ k ∧ Hid (q = (reK l wl k).length) ∧ Hid (wr.ownsRow wz.heap.size 3 1 v q ((reK l wl k).map (Value.int .i64))) ∧ Hid (Below wz.heap.size wz wr)) (fun _ i _ => n - (intOf i).toNat)
      case atStart => exact ⟨0, 0, none, 0, by omega, rfl, rfl, by omega, Lib.hid rfl, Lib.hid (World.ownsRow_nil _ _ _ _), Lib.hid (Below.refl _ _)⟩
      case round =>
        obtain ⟨k, q, A5, c5, hk, rfl, rfl, hqk, hq, hown, hbz⟩ := hrel
        by_cases hkn : k < n
        · obtain ⟨g', o', Ad, nd, cd, e', y1, y2, y3⟩ := H.out.at_ (below_then hb.out hbz.out) hkn
          cases Option.some.inj e'
          have hwc := (hbw.out.kept hbz.out).cell k
          rw [boR_get _ _ (by rw [HWLN.out]; exact hkn)] at hwc
          have hbS : Below wr.heap.size wr (wr.alloc (.cells #[.int .i64 (gS l k).1, .slice Ad nd cd] 33)) := (Below.refl _ _).alloc (Nat.le_refl _) _
          have hwc' := cell_kept hbS hwc
          have HBS := Lib.hid (below_then hbz.out hbS)
          have HOS := Lib.hid (Kp.own (S := fun _ => False) (Kp.of_below hbS) hown.out (fun _ _ => id))
          clear y3 hwc
          cases hgo : gO wl k with
          | false =>
            rw [hgo] at hwc'
            have HRE : Hid (reK l wl (k + 1) = reK l wl k) := Lib.hid (by rw [reK, hgo]; rfl)
            clear hbS
            go_wp2_with fail
            go_roundw
            case rel => exact ⟨k + 1, q, A5, c5, by omega, by go_num, rfl, by omega, by rw [HRE.out]; exact hq, by rw [HRE.out]; exact HOS, HBS⟩
            case measure => simp [intOf]; omega
          | true =>
            rw [hgo] at hwc'
            have HRE : Hid (reK l wl (k + 1) = reK l wl k ++ [(gS l k).1]) := Lib.hid (by rw [reK, hgo]; rfl)
            clear hbS
            obtain ⟨ws, hws⟩ : ∃ ws, ws = wr.alloc (.cells #[.int .i64 (gS l k).1, .slice Ad nd cd] 33) := ⟨_, rfl⟩
            have hbT : Below ws.heap.size ws (ws.alloc (.cells #[.int .i64 (gS l k).1] 3)) := (Below.refl _ _).alloc (Nat.le_refl _) _
            rw [← hws] at HBS HOS
            have HOT := Lib.hid (Kp.own (S := fun _ => False) (Kp.of_below hbT) HOS.out (fun _ _ => id))
            have HBT := Lib.hid (below_then HBS.out hbT)
            have HBK : Hid (Blk (ws.alloc (.cells #[.int .i64 (gS l k).1] 3)) (wr.heap.size + 1) 3 #[.int .i64 (gS l k).1]) := Lib.hid (by
              have := Blk.new ws 3 #[.int .i64 (gS l k).1]
              rw [hws, World.size_alloc] at this
              rw [hws]
              exact this)
            rw [hws] at HOT HBT HBK
            clear hbT hws HBS HOS
            go_wp2_with (first
              | (at_builtin; refine wpList_app1 _ rfl (.tmp 86) (.tmp 89) 24 3 (.int .i64 0) 8 Try.underlying24 infoInt rfl rfl wz.heap.size (.slice A5 q c5) q ((reK l wl k).map (Value.int .i64)) rfl HOT.out (wr.heap.size + 1) 1 3 (.int .i64 (gS l k).1) rfl HBK.out rfl (by omega) (by omega) HBT.out.size ?_; intro v6 w6 hp6))
            obtain ⟨m6, g6, cap6, hm6, rfl⟩ := own_form (by omega) hp6.1
            have HR6 : Hid (w6.ownsRow wz.heap.size 3 1 (.slice (some ⟨g6, 0, none⟩) m6 cap6) m6 ((reK l wl (k + 1)).map (Value.int .i64))) := Lib.hid (by
              have h1 := hp6.1
              rw [HRE.out, List.map_append]
              rw [← hm6] at h1
              exact h1)
            have HB6 : Hid (Below wz.heap.size wz w6) := Lib.hid (HBT.out.grown hp6.2.1 HBT.out.size (fun b hb' => own_base HOT.out b hb'))
            have HQ6 : Hid (m6 = (reK l wl (k + 1)).length) := Lib.hid (by rw [hm6, HRE.out, List.length_append, ← hq.out]; rfl)
            have hm6k : m6 ≤ k + 1 := by omega
            clear hp6 hm6
            go_roundw
            case rel => exact ⟨k + 1, m6, _, cap6, by omega, by go_num, rfl, hm6k, HQ6, HR6, HB6⟩
            case measure => simp [intOf]; omega
        · obtain rfl : k = n := by omega
          by_cases hbig : most < q
          · have q1 : decide ((most : Int) < (q : Int)) = true := by simp; omega
            have q1' : decide (most < q) = true := by simpa using hbig
            have HNO : Hid (wrF l t = none) := Lib.hid (by rw [HWF.out, if_pos (by rw [← hq.out]; exact hbig)])
            go_wp2_with fail
            go_ret2
            rw [HNO.out]
            exact ⟨below_then hb.out hbz.out, rfl⟩
          · have q1 : decide ((most : Int) < (q : Int)) = false := by simp; omega
            have q1' : decide (most < q) = false := by simpa using hbig
            have HYES : Hid (wrF l t = some (isort (reK l wl k))) := Lib.hid (by rw [HWF.out, if_neg (by rw [← hq.out]; exact hbig)])
            have HIL : Hid ((isort (reK l wl k)).length = q) := Lib.hid (by rw [isort_length, hq.out])
            go_wp2_with fail
            refine (sort_own wz.heap.size (.slice A5 q c5) q _ wr hown.out (by omega)).mono ?_
            rintro e w4 ⟨rfl, hs4, hg4⟩
            have HB4 : Hid (Below w.heap.size w w4) := Lib.hid (below_then hb.out (hbz.out.grown hg4 hbz.out.size (fun b hb' => own_base hown.out b hb')))
            have HS4 := Lib.hid hs4
            clear hs4 hg4
            go_wp2_with fail
            go_ret2
            rw [HYES.out]
            refine ⟨HB4.out, _, rfl, ?_⟩
            rw [HIL.out]
            exact ownsRow_mono HS4.out hb.out.size
end Go.Proofs.Ytakedococfklgaa
