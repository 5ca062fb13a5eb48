/- Several texts in one: Inv, Rs1, Rf1, Rs2, Rs3. -/
import Derived.Test.YtfcakjpljjnjnaaGreatDoorC31
/- Contracts of package matrix: Inverse of a matrix that has one. -/
namespace Go.Proofs.YtfcakjpljjnjnaaGreatDoor
open Go.RowKit Gf

attribute [local go_sem] Gf.xor_bits Gf.and_bits Gf.or_bits Gf.ne_zero_iff Gf.eq_zero_iff Gf.eq_one_iff Gf.beq_bytes Gf.bne_bytes Gf.bv_toNat

theorem BS.drop {w : World} {g o N c : Nat} {l : List UInt8} (h : BS w (some ⟨g, o, none⟩) N c l) {k : Nat} (hk : k ≤ N) : BS w (some ⟨g, o + k, none⟩) (N - k) (c - k) (l.drop k) := by
 refine ⟨by rw [List.length_drop, h.1], by have := h.2.1; omega, by have := h.2.2.1; omega, fun i hi => ?_⟩
 obtain ⟨g', o', e, hc⟩ := h.2.2.2 (k + i) (by omega)
 injection e with e
 injection e with e1 e2
 subst e1 e2
 refine ⟨g, o + k, rfl, ?_⟩
 rw [Nat.add_assoc, hc]
 show some (B (gB l (k + i))) = some (B (gB (l.drop k) i))
 rw [gB, gB, List.getD_eq_getElem?_getD, List.getD_eq_getElem?_getD, List.getElem?_drop]

/-- The identity, and the inverse that elimination finds. -/
def idm (n : Nat) : List (List UInt8) := (List.range n).map (unit n)
theorem idm_length (n : Nat) : (idm n).length = n := by simp [idm]
theorem idm_get (n i : Nat) (h : i < n) : gR (idm n) i = unit n i := by
 rw [gR_eq (by rw [idm_length]; exact h)]; simp [idm]
theorem idm_rect (n : Nat) : Rect (idm n) n := fun i hi => by
 rw [idm_length] at hi
 rw [idm_get n i hi, unit_length]
def elimI (m : List (List UInt8)) (n : Nat) : List (List UInt8) × Nat := red (jmat m (idm n) n) n
def invrow (m : List (List UInt8)) (n i : Nat) : List UInt8 := (gR (elimI m n).1 i).drop n
def invpart (m : List (List UInt8)) (n k : Nat) : List (List UInt8) := (List.range n).map fun i => if i < k then invrow m n i else []
def invM (m : List (List UInt8)) (n : Nat) : List (List UInt8) := (List.range n).map (invrow m n)
theorem invpart_length (m : List (List UInt8)) (n k : Nat) : (invpart m n k).length = n := by simp [invpart]
theorem invpart_get (m : List (List UInt8)) (n k i : Nat) (h : i < n) : gR (invpart m n k) i = if i < k then invrow m n i else [] := by
 rw [gR_eq (by rw [invpart_length]; exact h)]; simp [invpart]
theorem invpart_all (m : List (List UInt8)) (n : Nat) : invpart m n n = invM m n := by
 apply List.ext_getElem (by simp [invpart, invM])
 intro i h1 h2
 have : i < n := by simpa [invpart] using h1
 simp [invpart, invM, this]
theorem invpart_set (m : List (List UInt8)) (n k : Nat) (_h : k < n) : (invpart m n k).set k (invrow m n k) = invpart m n (k + 1) := by
 apply List.ext_getElem (by simp [invpart])
 intro i h1 h2
 rw [List.getElem_set]
 simp only [invpart, List.getElem_map, List.getElem_range]
 by_cases e : k = i
 ·
  subst e; simp
 ·
  rw [if_neg e]
  by_cases e2 : i < k
  ·
   rw [if_pos e2, if_pos (by omega)]
  ·
   rw [if_neg e2, if_neg (by omega)]

def InvI (m : List (List UInt8)) (n k : Nat) (w2 wr : World) : Prop :=
 ∃ cs, RowsBlk wr w2.heap.size 39 cs (invpart m n k) ∧ Below w2.heap.size w2 wr

set_option maxHeartbeats 4000000 in
theorem inverse_any (A : Option Addr) (n c : Nat) (m : List (List UInt8)) (w : World) (h : MS w A n c m) (hm : Rect m n) (hn : 0 < n) (hn64 : n ≤ 64) (hreg : (elimI m n).2 = n) :
  Calls Tryz.prog 145 #[.slice A n c] w (Rets0 (NewM 39 (invM m n)) w) := by
 have HC := Lib.hid (ncols_eq hm (by rw [h.1]; exact hn))
 have HREG := Lib.hid hreg
 clear hreg
 have hmk := make_rows n (by omega)
 go_enter Tryz.func145, Tryz.ntmps145
 go_wp2_with fail
 refine (valid_any A n c m n _ h hm hn64 hn64).mono ?_
 rintro e w' ⟨rfl, rfl⟩
 go_wp2_with fail
 refine (columns_any A n c m _ h).mono ?_
 rintro e w' ⟨rfl, rfl⟩
 rw [HC.out]
 go_wp2_with fail
 refine (identity_any n _ hn64).mono ?_
 rintro e w1 ⟨rfl, hgrid⟩
 have hid : MS w1 (some ⟨w.heap.size, 0, none⟩) n n (idm n) :=
  (hgrid.rowsBlk (fun i _ => unit_length n i) (by unfold lim; omega)).toMS (idm_length n) (Nat.le_refl _) (by unfold lim; omega)
 have hb1 : Below w.heap.size w w1 := hgrid.2.2.1
 have hw1 := h.kept hb1
 clear hgrid
 go_wp2_with fail
 refine (eliminate_any A (some ⟨w.heap.size, 0, none⟩) n c n m (idm n) w1 hw1 hid hm (idm_rect n) hn hn64).mono ?_
 rintro e w2 ⟨ge, gr, cap, m2, np, Ap, cp, pr, cs, F, rfl, hred, hE, hR, hnp, hb2⟩
 obtain rfl : np = n := by
  have := HREG.out
  unfold elimI at this
  rw [hred] at this
  exact this
 have HM2 : Hid (m2 = (elimI m np).1) := Lib.hid (by unfold elimI; rw [hred])
 have ce := hE.rowsCell
 have cp2 := hE.pivCell
 have HE := Lib.hid hE
 have HB2 := Lib.hid (below_then hb1 hb2)
 have hgel := hE.1.lt
 clear hred hE hid hw1 hb1 hb2 hnp
 go_wp2_with fail
 clear hmk
 go_loopw [39] (fun i wr => ∃ k : Nat, k ≤ np ∧ i = .int .i64 (k : Int) ∧ InvI m np k w2 wr) (fun i _ => np - (intOf i).toNat)
 case atStart =>
  refine ⟨0, by omega, rfl, _, ⟨Blk.new _ _ _, by rw [invpart_length]; simp, fun i hi => ?_⟩, (Below.refl _ _).alloc (Nat.le_refl _) _⟩
  rw [invpart_length] at hi
  refine ⟨none, 0, 0, by simp [hi], ?_⟩
  rw [invpart_get _ _ _ _ hi, if_neg (by omega)]
  exact BS.nil
 case round =>
  obtain ⟨k, hk, rfl, cs', h1, hb⟩ := hrel
  by_cases hlt : k < np
  ·
   have hE2 := HE.out.kept hb
   obtain ⟨A1, c1, hc1, hr1⟩ := hE2.row hR hlt
   obtain ⟨g1, o1, rfl, _⟩ := hr1.at_ (Below.refl _ _) (show 0 < np + np by omega)
   have hc2 := hr1.2.1
   have ec1 : ¬ c1 = np := by omega
   have HD : Hid (BS wr (some ⟨g1, o1 + np, none⟩) np (c1 - np) (invrow m np k)) := by
    have := hr1.drop (k := np) (by omega)
    rw [show np + np - np = np by omega, HM2.out] at this
    exact Lib.hid this
   have HO0 : Hid ((wr.alloc (.cells #[] 5)).ownsRow wr.heap.size 5 1 (.slice (some ⟨wr.heap.size, 0, none⟩) 0 0) 0 (([] : List UInt8).map B)) :=
    Lib.hid (World.ownsRow_lit wr #[] 0 (Nat.le_refl _) (by simp [maxLen]) rfl)
   have HD0 := Lib.hid (HD.out.kept (w' := wr.alloc (.cells #[] 5)) ((Below.refl _ _).alloc (Nat.le_refl _) _))
   obtain ⟨A0, n0, c0, hc0, _⟩ := h1.cell (i := k) (by rw [invpart_length]; exact hlt)
   have HB := Lib.hid hb
   have H1 := Lib.hid h1
   clear hb h1 hE2 hr1
   go_wp2_with (first
    | (at_builtin; refine wpList_appB _ rfl (.tmp 46) (.tmp 50) rfl wr.heap.size (.slice (some ⟨wr.heap.size, 0, none⟩) 0 0) 0 [] rfl HO0.out (some ⟨g1, o1 + np, none⟩) np (c1 - np) (invrow m np k) rfl HD0.out (by omega) (by simp) ?_; intro v1 w3 hp1; have hb3 : Below wr.heap.size wr w3 := ((Below.refl _ _).alloc (Nat.le_refl _) _).grown hp1.2.1 (by simp) (by simp [Value.ownBlock]); obtain ⟨A3, c3, rfl, hbs3⟩ := BS.of_own hp1.1 (by unfold lim; omega); rw [Nat.zero_add] at hbs3; have hc3 := cell_kept hb3 hc0; have hf3 := (H1.out.1.kept hb3).frozen k; have HB3 := Lib.hid hb3; have HBS3 := Lib.hid hbs3; clear hp1 hb3 hbs3))
   have HR : Hid (InvI m np (k + 1) w2 (w3.setCell ⟨w2.heap.size, k, none⟩ (.slice A3 np c3))) := by
    have h4 := (H1.out.kept HB3.out).set_ (i := k) (by rw [invpart_length]; exact hlt) HBS3.out
    rw [List.nil_append, invpart_set _ _ _ hlt] at h4
    exact Lib.hid ⟨_, h4, (below_thenB HB.out HB.out.size HB3.out).setCell (Nat.le_refl _) _⟩
   go_roundw
   case rel => exact ⟨k + 1, by omega, by go_num, HR.out⟩
   case measure => simp [intOf]; omega
  ·
   obtain rfl : k = np := by omega
   have HR : Hid (NewM 39 (invM m k) w (.slice (some ⟨w2.heap.size, 0, none⟩) k k) wr) := by
    rw [invpart_all] at h1
    exact Lib.hid ⟨w2.heap.size, cs', k, rfl, by simp [invM], HB2.out.size, h1, below_then HB2.out hb⟩
   clear h1 hb
   go_wp2
   go_ret2
   exact ⟨_, rfl, HR.out⟩
end Go.Proofs.YtfcakjpljjnjnaaGreatDoor
/- Contracts of package reedsolomon: Valid, newTable, of. -/
namespace Go.Proofs.YtfcakjpljjnjnaaGreatDoor
open Go.RowKit Gf

attribute [local go_sem] Gf.xor_bits Gf.and_bits Gf.or_bits Gf.ne_zero_iff Gf.eq_zero_iff Gf.eq_one_iff Gf.beq_bytes Gf.bne_bytes Gf.bv_toNat

/-- Valid, as a Bool that the walk does not take apart. -/
def vldB (d t : Int) : Bool := decide (1 ≤ d ∧ d ≤ 8 ∧ d ≤ t ∧ t ≤ 16)
theorem vld_iff {d t : Int} : vldB d t = true ↔ 1 ≤ d ∧ d ≤ 8 ∧ d ≤ t ∧ t ≤ 16 := by simp [vldB]
theorem vld_false {d t : Int} (h : ¬ (1 ≤ d ∧ d ≤ 8 ∧ d ≤ t ∧ t ≤ 16)) : vldB d t = false := by simp [vldB]; omega
theorem e8ret_bool {a b : Bool} (h : a = b) : Ending.returned (.bool a) = .returned (.bool b) := by rw [h]

set_option maxHeartbeats 1000000 in
theorem rsvalid_any (d t : Int) (w : World) :
  Calls Tryz.prog 30 #[.int .i64 d, .int .i64 t] w fun e w' => e = .returned (.bool (vldB d t)) ∧ w = w' := by
 by_cases h1 : 1 ≤ d
 ·
  by_cases h2 : d ≤ 8
  ·
   by_cases h3 : d ≤ t
   ·
    by_cases h4 : t ≤ 16
    ·
     have e1 : decide (1 ≤ d) = true := by simpa using h1
     have e2 : decide (d ≤ 8) = true := by simpa using h2
     have e3 : decide (d ≤ t) = true := by simpa using h3
     have e4 : decide (t ≤ 16) = true := by simpa using h4
     have HV := Lib.hid (vld_iff.2 ⟨h1, h2, h3, h4⟩)
     go_enter Tryz.func30, Tryz.ntmps30
     go_wp2
     go_ret
     exact ⟨e8ret_bool (by rw [HV.out]), rfl⟩
    ·
     have e1 : decide (1 ≤ d) = true := by simpa using h1
     have e2 : decide (d ≤ 8) = true := by simpa using h2
     have e3 : decide (d ≤ t) = true := by simpa using h3
     have e4 : decide (t ≤ 16) = false := by simpa using h4
     have HV := Lib.hid (vld_false (d := d) (t := t) (by omega))
     go_enter Tryz.func30, Tryz.ntmps30
     go_wp2
     go_ret
     exact ⟨e8ret_bool (by rw [HV.out]), rfl⟩
   ·
    have e1 : decide (1 ≤ d) = true := by simpa using h1
    have e2 : decide (d ≤ 8) = true := by simpa using h2
    have e3 : decide (d ≤ t) = false := by simpa using h3
    have HV := Lib.hid (vld_false (d := d) (t := t) (by omega))
    go_enter Tryz.func30, Tryz.ntmps30
    go_wp2
    go_ret
    exact ⟨e8ret_bool (by rw [HV.out]), rfl⟩
  ·
   have e1 : decide (1 ≤ d) = true := by simpa using h1
   have e2 : decide (d ≤ 8) = false := by simpa using h2
   have HV := Lib.hid (vld_false (d := d) (t := t) (by omega))
   go_enter Tryz.func30, Tryz.ntmps30
   go_wp2
   go_ret
   exact ⟨e8ret_bool (by rw [HV.out]), rfl⟩
 ·
  have e1 : decide (1 ≤ d) = false := by simpa using h1
  have HV := Lib.hid (vld_false (d := d) (t := t) (by omega))
  go_enter Tryz.func30, Tryz.ntmps30
  go_wp2
  go_ret
  exact ⟨e8ret_bool (by rw [HV.out]), rfl⟩

theorem inv_int (x : Int) (w : World) (hx : 0 < x) (hx' : x < 256) :
  Calls Tryz.prog 133 #[.int .u8 x] w fun e w' => e = .returned (.tuple #[B (inv (UInt8.ofNat x.toNat)), .int .i64 0]) ∧ w = w' := by
 have hne : (UInt8.ofNat x.toNat == 0) = false := by
  rw [beq_eq_false_iff_ne]
  intro e
  have h1 := bv_ofNat x (by omega) hx'
  rw [e] at h1
  have : bv 0 = 0 := rfl
  omega
 have h := inv_any (UInt8.ofNat x.toNat) hne w
 rw [B, bv_ofNat x (by omega) hx'] at h
 exact h

/-- The coefficient of piece i for block c. -/
def coef (d i c : Nat) : UInt8 := if d ≤ i then inv (UInt8.ofNat (i ^^^ c)) else if i = c then 1 else 0
/-- The table after r rows and k columns of row r. -/
def tcell (d r k j : Nat) : UInt8 := if j % 8 < d ∧ (j / 8 < r ∨ (j / 8 = r ∧ j % 8 < k)) then coef d (j / 8) (j % 8) else 0
def tlist (d r k : Nat) : List UInt8 := (List.range 128).map (tcell d r k)
theorem tlist_length (d r k : Nat) : (tlist d r k).length = 128 := by simp [tlist]
theorem tlist_get (d r k j : Nat) (h : j < 128) : gB (tlist d r k) j = tcell d r k j := by
 rw [gB_eq (by rw [tlist_length]; exact h)]; simp [tlist]
def tblA (d r k : Nat) : Array Value := #[.int .i64 (d : Int)] ++ row (tlist d r k)
theorem tblA_get (d r k j : Nat) (h : j < 128) : (tblA d r k)[j + 1]? = some (B (tcell d r k j)) := by
 rw [tblA, Array.getElem?_append_right (by simp), show j + 1 - (#[Value.int .i64 (d : Int)] : Array Value).size = j by simp, row_get _ _ (by rw [tlist_length]; exact h), tlist_get _ _ _ _ h]
theorem tblA_zero (d r k : Nat) : (tblA d r k)[0]? = some (.int .i64 (d : Int)) := by rw [tblA, Array.getElem?_append_left (by simp)]; rfl
theorem tblA_set (d r k : Nat) (_hr : r < 16) (hk : k < 8) (hkd : k < d) : (tblA d r k).setIfInBounds (1 + r * 8 + k) (B (coef d r k)) = tblA d r (k + 1) := by
 have e : tblA d r (k + 1) = #[.int .i64 (d : Int)] ++ row ((tlist d r k).set (r * 8 + k) (coef d r k)) := by
  have : tlist d r (k + 1) = (tlist d r k).set (r * 8 + k) (coef d r k) := by
   apply List.ext_getElem (by simp [tlist])
   intro j h1 h2
   rw [List.getElem_set]
   simp only [tlist, List.getElem_map, List.getElem_range]
   by_cases e : r * 8 + k = j
   ·
    rw [if_pos e]
    subst e
    unfold tcell
    rw [if_pos (by omega), show (r * 8 + k) / 8 = r by omega, show (r * 8 + k) % 8 = k by omega]
   ·
    rw [if_neg e]
    unfold tcell
    by_cases e2 : j % 8 < d ∧ (j / 8 < r ∨ (j / 8 = r ∧ j % 8 < k))
    ·
     rw [if_pos e2, if_pos (by omega)]
    ·
     rw [if_neg e2, if_neg (by omega)]
  rw [tblA, this]
 rw [e, tblA, show 1 + r * 8 + k = r * 8 + k + 1 by omega, Array.setIfInBounds_append_right (by simp), ← row_set]
 simp
theorem tlist_next (d r : Nat) (_hd : d ≤ 8) : tlist d r d = tlist d (r + 1) 0 := by
 apply List.ext_getElem (by simp [tlist])
 intro j h1 h2
 simp only [tlist, List.getElem_map, List.getElem_range, tcell]
 by_cases e2 : j % 8 < d ∧ (j / 8 < r ∨ (j / 8 = r ∧ j % 8 < d))
 ·
  rw [if_pos e2, if_pos (by omega)]
 ·
  rw [if_neg e2, if_neg (by omega)]
theorem tlist_start (d : Nat) : tlist d 0 0 = zeros 128 := by
 apply List.ext_getElem (by simp [tlist, zeros])
 intro j h1 h2
 simp only [tlist, List.getElem_map, List.getElem_range, tcell, zeros, List.getElem_replicate]
 rw [if_neg (by omega)]
/-- A zero need not be stored. -/
theorem tblA_skip (d r k : Nat) (_hr : r < 16) (hk : k < 8) (hkd : k < d) (h0 : coef d r k = 0) : tblA d r k = tblA d r (k + 1) := by
 unfold tblA
 congr 2
 apply List.ext_getElem (by simp [tlist])
 intro j h1 h2
 simp only [tlist, List.getElem_map, List.getElem_range, tcell]
 by_cases e : r * 8 + k = j
 ·
  subst e
  rw [if_neg (by omega), if_pos (by omega), show (r * 8 + k) / 8 = r by omega, show (r * 8 + k) % 8 = k by omega, h0]
 ·
  by_cases e2 : j % 8 < d ∧ (j / 8 < r ∨ (j / 8 = r ∧ j % 8 < k))
  ·
   rw [if_pos e2, if_pos (by omega)]
  ·
   rw [if_neg e2, if_neg (by omega)]

theorem zero_table : Tryz.zeroCells185 = #[.int .i64 0] ++ row (zeros 128) := by kernel_rfl
theorem tbl_start (d : Nat) : tblA d 0 0 = Tryz.zeroCells185.setIfInBounds 0 (.int .i64 (d : Int)) := by
 unfold tblA
 rw [tlist_start, zero_table, Array.setIfInBounds_append_left (by simp)]
 rfl

def TabI (d r k g : Nat) (w wr : World) : Prop := Blk wr g 185 (tblA d r k) ∧ Below w.heap.size w wr

theorem xor_lt16 {a b : Nat} (ha : a < 16) (hb : b < 16) : a ^^^ b < 16 := Nat.xor_lt_two_pow (n := 4) ha hb
theorem xor_pos16 : ∀ a, a < 16 → ∀ b, b < 16 → a ≠ b → 0 < a ^^^ b := by decide
theorem wrap8_nat (n : Nat) (h : n < 256) : IntKind.u8.wrap (n : Int) = (n : Int) := by
 show (n : Int) % 256 = n
 omega
theorem ofInt_i64 (a : Nat) (ha : a < 9223372036854775808) : (BitVec.ofInt 64 (a : Int)).toNat = a := by
 rw [BitVec.ofInt_natCast, BitVec.toNat_ofNat]; exact Nat.mod_eq_of_lt (by omega)
theorem i64_xor_nat (a b : Nat) (ha : a < 9223372036854775808) (hb : b < 9223372036854775808) : bits .xor .i64 (a : Int) (b : Int) = ((a ^^^ b : Nat) : Int) := by
 have hx : a ^^^ b < 2 ^ 63 := Nat.xor_lt_two_pow (by omega) (by omega)
 show IntKind.i64.wrap ((BitVec.ofInt 64 (a : Int) ^^^ BitVec.ofInt 64 (b : Int)).toNat : Int) = _
 rw [BitVec.toNat_xor, ofInt_i64 a ha, ofInt_i64 b hb, IntKind.wrap_i64]
 omega

set_option maxRecDepth 100000 in
set_option maxHeartbeats 4000000 in
theorem newTable_any (d : Nat) (w : World) (hd : d ≤ 8) :
  Calls Tryz.prog 93 #[.int .i64 (d : Int)] w fun e w' => e = .returned (.pointer (some ⟨w.heap.size, 0, none⟩)) ∧ TabI d 16 0 w.heap.size w w' := by
 go_enter Tryz.func93, Tryz.ntmps93
 go_wp2
 go_loopw [9] (fun i wr => ∃ r : Nat, r ≤ 16 ∧ i = .int .i64 (r : Int) ∧ TabI d r 0 w.heap.size w wr) (fun i _ => 16 - (intOf i).toNat)
 case atStart =>
  refine ⟨0, by omega, rfl, ?_, (Below.refl _ _).alloc (Nat.le_refl _) _⟩
  rw [tbl_start]
  exact Blk.new w _ _
 case round =>
  obtain ⟨r, hr, rfl, h1, hb⟩ := hrel
  by_cases hlt : r < 16
  ·
   have hr16' : (r : Int) < 16 := by omega
   have HI : Hid (TabI d r 0 w.heap.size w wr) := Lib.hid ⟨h1, hb⟩
   clear h1 hb
   go_wp2
   obtain ⟨wo, rfl⟩ : ∃ wo : World, wo = wr := ⟨_, rfl⟩
   go_loopw [13] (fun i wr => ∃ k : Nat, k ≤ d ∧ i = .int .i64 (k : Int) ∧ TabI d r k w.heap.size w wr) (fun i _ => d - (intOf i).toNat)
   case atStart => exact ⟨0, by omega, rfl, HI.out⟩
   case round =>
    obtain ⟨k, hk, rfl, h2, hb2⟩ := hrel
    by_cases hlt2 : k < d
    ·
     have hc : wr.cell? ⟨w.heap.size, 1 + r * 8 + k, none⟩ = some (B (tcell d r k (r * 8 + k))) := by
      rw [h2.cell, show 1 + r * 8 + k = r * 8 + k + 1 by omega, tblA_get _ _ _ _ (by omega)]
     have hf := h2.frozen (1 + r * 8 + k)
     have hk8 : k < 8 := by omega
     have hk8' : (k : Int) < 8 := by omega
     by_cases hdr : d ≤ r
     ·
      have hx := i64_xor_nat r k (by omega) (by omega)
      have hx16 := xor_lt16 hlt (show k < 16 by omega)
      have hx0 : 0 < r ^^^ k := xor_pos16 r hlt k (by omega) (by omega)
      have hw8 := wrap8_nat (r ^^^ k) (by omega)
      have HS := Lib.hid (tblA_set d r k hlt (by omega) hlt2)
      have HCO : Hid (coef d r k = inv (UInt8.ofNat (r ^^^ k))) := Lib.hid (by unfold coef; rw [if_pos hdr])
      have H2 := Lib.hid h2
      have HB2 := Lib.hid hb2
      clear h2 hb2
      go_wp2
      refine Text.wp_region_text (fun _ => True) [(0, 4), (1, 4), (2, 4), (3, 4), (4, 4), (5, 4), (6, 4), (11, 4), (12, 4), (13, 4), (7, 1), (8, 4), (9, 4), (10, 4), (14, 4), (15, 2)] (by kernel_rfl) (by kernel_rfl) (fun _ _ _ _ _ h => h) (trivial) ?_
      iterate 10 (refine Text.purek rfl rfl (fun K hK => ⟨_, fun w' => by go_simp <;> rfl, ?_⟩); go_simp; refine hK _ ?_; clear hK K)
      refine Text.quietk rfl rfl (fun K hK => ?_)
      refine ⟨_, _, _, by go_simp <;> rfl, inv_int ((r ^^^ k : Nat) : Int) _ (by omega) (by omega), ?_⟩
      rw [Int.toNat_natCast, ← HCO.out]
      go_simp
      refine hK _ ?_
      clear hK K
      iterate 4 (refine Text.purek rfl rfl (fun K hK => ⟨_, fun w' => by go_simp <;> rfl, ?_⟩); go_simp; refine hK _ ?_; clear hK K)
      refine Text.eff rfl rfl (fun K hK => ?_)
      go_simp
      refine hK _ _ trivial ?_
      clear hK K
      refine Text.done ?_
      have HR : Hid (TabI d r (k + 1) w.heap.size w (wr.setCell ⟨w.heap.size, 1 + r * 8 + k, none⟩ (B (coef d r k)))) := by
       have h3 := H2.out.set_ (1 + r * 8 + k) (B (coef d r k))
       rw [HS.out] at h3
       exact Lib.hid ⟨h3, HB2.out.setCell (p := ⟨w.heap.size, 1 + r * 8 + k, none⟩) (Nat.le_refl _) _⟩
      go_wp2
      go_roundw
      case rel => exact ⟨k + 1, by omega, by go_num, HR.out.1.drew, HR.out.2.drew⟩
      case measure => simp [intOf]; omega
     ·
      by_cases hrk : r = k
      ·
       have HS := Lib.hid (tblA_set d r k hlt (by omega) hlt2)
       have HCO : Hid (coef d r k = 1) := Lib.hid (by unfold coef; rw [if_neg hdr, if_pos hrk])
       have HR : Hid (TabI d r (k + 1) w.heap.size w (wr.setCell ⟨w.heap.size, 1 + r * 8 + k, none⟩ (.int .u8 1))) := by
        have h3 := h2.set_ (1 + r * 8 + k) (B (coef d r k))
        rw [HS.out, HCO.out] at h3
        exact Lib.hid ⟨h3, hb2.setCell (p := ⟨w.heap.size, 1 + r * 8 + k, none⟩) (Nat.le_refl _) _⟩
       have hq : ((r : Int) == (k : Int)) = true := by simp [hrk]
       have HRK := Lib.hid hrk
       clear h2 hb2 hrk
       go_wp2
       go_roundw
       case rel => exact ⟨k + 1, by omega, by go_num, HR.out⟩
       case measure => simp [intOf]; omega
      ·
       have HR : Hid (TabI d r (k + 1) w.heap.size w wr) := by
        refine Lib.hid ⟨?_, hb2⟩
        rw [← tblA_skip d r k hlt (by omega) hlt2 (by unfold coef; rw [if_neg hdr, if_neg hrk])]
        exact h2
       have hq : ((r : Int) == (k : Int)) = false := by simp; omega
       clear h2 hb2
       go_wp2
       go_roundw
       case rel => exact ⟨k + 1, by omega, by go_num, HR.out⟩
       case measure => simp [intOf]; omega
    ·
     obtain rfl : k = d := by omega
     have HR : Hid (TabI k (r + 1) 0 w.heap.size w wr) := by
      refine Lib.hid ⟨?_, hb2⟩
      unfold tblA at h2 ⊢
      rw [← tlist_next k r hd]
      exact h2
     clear h2 hb2
     go_wp2
     go_roundw
     case rel => exact ⟨r + 1, by omega, by go_num, HR.out⟩
     case measure => simp [intOf]; omega
  ·
   obtain rfl : r = 16 := by omega
   have HR : Hid (TabI d 16 0 w.heap.size w wr) := Lib.hid ⟨h1, hb⟩
   clear h1 hb
   go_wp2
   go_ret
   exact ⟨rfl, HR.out⟩
end Go.Proofs.YtfcakjpljjnjnaaGreatDoor
/- Contracts of the references kinkeepref04: Mul, Inv. -/
namespace Go.Proofs.YtfcakjpljjnjnaaGreatDoor
open Go.RowKit Gf

attribute [local go_sem] Gf.eq_one_iff

theorem xor_i64 (a b : UInt8) : bits .xor .i64 (bv a) (bv b) = bv (a ^^^ b) := by
 unfold bv; rw [i64_xor_nat _ _ (by have := a.toNat_lt; omega) (by have := b.toNat_lt; omega), UInt8.toNat_xor]
theorem dbl_hi : ∀ u : UInt8, 255 < bv u * 2 → bits .xor .i64 (bv u * 2) 285 = bv (dbl u) := all_u8 (by decide +kernel)
theorem dbl_lo : ∀ u : UInt8, bv u * 2 ≤ 255 → bv u * 2 = bv (dbl u) := all_u8 (by decide +kernel)
def shn (b : UInt8) (k : Nat) : UInt8 := UInt8.ofNat (b.toNat / 2 ^ k)
theorem shn_bv (b : UInt8) (k : Nat) : bv b / 2 ^ k = bv (shn b k) := by
 unfold bv shn
 have h : b.toNat / 2 ^ k < 256 := Nat.lt_of_le_of_lt (Nat.div_le_self _ _) b.toNat_lt
 have : (UInt8.ofNat (b.toNat / 2 ^ k)).toNat = b.toNat / 2 ^ k := by simp; omega
 rw [this]; push_cast; rfl
theorem shn_succ (b : UInt8) (k : Nat) : shn b (k + 1) = shn b k >>> 1 := by
 apply UInt8.toNat_inj.1
 rw [shr1_half]
 unfold shn
 have h : b.toNat / 2 ^ k < 256 := Nat.lt_of_le_of_lt (Nat.div_le_self _ _) b.toNat_lt
 have h' : b.toNat / 2 ^ (k + 1) < 256 := Nat.lt_of_le_of_lt (Nat.div_le_self _ _) b.toNat_lt
 have e1 : (UInt8.ofNat (b.toNat / 2 ^ k)).toNat = b.toNat / 2 ^ k := by simp; omega
 have e2 : (UInt8.ofNat (b.toNat / 2 ^ (k + 1))).toNat = b.toNat / 2 ^ (k + 1) := by simp; omega
 rw [e1, e2, Nat.pow_succ, Nat.div_div_eq_div_mul]

set_option maxRecDepth 100000 in
set_option maxHeartbeats 400000 in
theorem rmul_any (a b : UInt8) (w : World) :
  Calls Tryz.prog 123 #[B a, B b] w fun e w' => e = .returned (B (mul a b)) ∧ w = w' := by
 have ha := bv_lo a
 have ha' := bv_hi a
 go_enter Tryz.func123, Tryz.ntmps123
 go_wp2
 go_loop [5, 6, 7] (fun x s i => ∃ (u v : UInt8) (k : Nat), x = .int .i64 (bv u) ∧ s = .int .i64 (bv v) ∧ i = .int .i64 (k : Int) ∧ k ≤ 8 ∧ Hid (v ^^^ mulBits (8 - k) u (shn b k) = mul a b)) (fun _ _ i => 8 - (intOf i).toNat)
 case atStart => exact ⟨a, 0, 0, rfl, rfl, rfl, by omega, Lib.hid (by rw [mul_bits]; simp [shn])⟩
 case round =>
  obtain ⟨u, v, k, rfl, rfl, rfl, hk, hm⟩ := hrel
  by_cases hlt : k < 8
  ·
   have hu := bv_lo u
   have hu' := bv_hi u
   have HS : Hid (∀ v', (v' = v ^^^ if shn b k &&& 1 = 1 then u else 0) → v' ^^^ mulBits (8 - (k + 1)) (dbl u) (shn b (k + 1)) = mul a b) := by
    refine Lib.hid fun v' hv' => ?_
    have := hm.out
    rw [show 8 - k = (8 - (k + 1)) + 1 by omega, mulBits] at this
    rw [hv', shn_succ, xor_assoc]
    exact this
   have HX : Hid (bits .xor .i64 (bv v) (bv u) = bv (v ^^^ u)) := Lib.hid (xor_i64 v u)
   have HD1 := Lib.hid (dbl_hi u)
   have HD2 := Lib.hid (dbl_lo u)
   have HB : Hid (bits .and .u8 (bv b / 2 ^ k) 1 = bv (shn b k &&& 1)) := Lib.hid (by rw [shn_bv, and1])
   clear hm
   by_cases h1 : shn b k &&& 1 = 1
   ·
    have hb : (bits .and .u8 (bv b / 2 ^ k) 1 == 1) = true := by rw [HB.out, h1]; rfl
    have HS' := Lib.hid (HS.out (v ^^^ u) (by rw [if_pos h1]))
    clear HS h1
    go_wp2
    ·
     go_round
     case rel => exact ⟨dbl u, v ^^^ u, k + 1, by rw [HD1.out (by assumption)], by rw [HX.out], by go_num, by omega, HS'⟩
     case measure => simp [intOf]; omega
    ·
     go_round
     case rel => exact ⟨dbl u, v ^^^ u, k + 1, by rw [HD2.out (by assumption)], by rw [HX.out], by go_num, by omega, HS'⟩
     case measure => simp [intOf]; omega
   ·
    have hb : (bits .and .u8 (bv b / 2 ^ k) 1 == 1) = false := by
     rw [HB.out, eq_one_iff]; simpa using h1
    have HS' := Lib.hid (HS.out v (by rw [if_neg h1]; simp))
    clear HS h1
    go_wp2
    ·
     go_round
     case rel => exact ⟨dbl u, v, k + 1, by rw [HD1.out (by assumption)], rfl, by go_num, by omega, HS'⟩
     case measure => simp [intOf]; omega
    ·
     go_round
     case rel => exact ⟨dbl u, v, k + 1, by rw [HD2.out (by assumption)], rfl, by go_num, by omega, HS'⟩
     case measure => simp [intOf]; omega
  ·
   obtain rfl : k = 8 := by omega
   have HV : Hid (v = mul a b) := Lib.hid (by have := hm.out; simpa [mulBits] using this)
   have hv := bv_lo v
   have hv' := bv_hi v
   go_wp2
   go_ret
   refine ⟨?_, rfl⟩
   rw [← HV.out]
   rfl

/-- The first of 1.. whose product is 1. -/
theorem rinv_first (a : UInt8) (k : Nat) (h : mul a (UInt8.ofNat k) = 1) : inv a = UInt8.ofNat k := by
 have ha : a ≠ 0 := by intro e; rw [e, zero_mul] at h; exact absurd h (by decide)
 have h1 := mul_inv a ha
 calc inv a = mul (inv a) (mul a (UInt8.ofNat k)) := by rw [h, mul_one]
  _ = mul (mul a (inv a)) (UInt8.ofNat k) := by rw [← mul_assoc, mul_comm (inv a) a]
  _ = UInt8.ofNat k := by rw [h1, one_mul]
theorem inv_ne_zero (a : UInt8) (ha : a ≠ 0) : inv a ≠ 0 := fun e => by
 have := mul_inv a ha; rw [e, mul_zero] at this; exact absurd this (by decide)
theorem inv_none (a : UInt8) (h : ∀ k, 1 ≤ k → k < 256 → mul a (UInt8.ofNat k) ≠ 1) : a = 0 := by
 apply Classical.byContradiction; intro ha
 have h1 := mul_inv a ha
 have h2 := inv_ne_zero a ha
 have h3 : UInt8.ofNat (inv a).toNat = inv a := by simp
 refine h (inv a).toNat ?_ (inv a).toNat_lt (by rw [h3]; exact h1)
 rcases Nat.eq_zero_or_pos (inv a).toNat with e | e
 ·
  exact absurd (UInt8.toNat_inj.1 (by rw [e]; rfl)) h2
 ·
  exact e
theorem inv_zero_eq : inv 0 = 0 := by decide +kernel

theorem rmul_nat (a : UInt8) (k : Nat) (w : World) (hk : k < 256) :
  Calls Tryz.prog 123 #[B a, .int .u8 (k : Int)] w fun e w' => e = .returned (B (mul a (UInt8.ofNat k))) ∧ w = w' := by
 have h : (k : Int) = bv (UInt8.ofNat k) := by unfold bv; simp; omega
 rw [h]
 exact rmul_any _ _ _

def NoInv (a : UInt8) (k : Nat) : Prop := ∀ j, 1 ≤ j → j < k → mul a (UInt8.ofNat j) ≠ 1
set_option maxHeartbeats 400000 in
theorem rinv_any (a : UInt8) (w : World) :
  Calls Tryz.prog 120 #[B a] w fun e w' => e = .returned (B (inv a)) ∧ w = w' := by
 go_enter Tryz.func120, Tryz.ntmps120
 go_wp2
 go_loop [3] (fun i => ∃ k : Nat, 1 ≤ k ∧ k ≤ 256 ∧ i = .int .i64 (k : Int) ∧ NoInv a k) (fun i => 256 - (intOf i).toNat)
 case atStart => exact ⟨1, by omega, by omega, rfl, fun j h1 h2 => absurd h2 (by omega)⟩
 case round =>
  obtain ⟨k, h1, hk, rfl, hm⟩ := hrel
  by_cases hlt : k < 256
  ·
   have HK : Hid ((k : Int) = bv (UInt8.ofNat k)) := Lib.hid (by unfold bv; simp; omega)
   obtain ⟨p, hp⟩ : ∃ p, p = mul a (UInt8.ofNat k) := ⟨_, rfl⟩
   have HC : Hid (Calls Tryz.prog 123 #[B a, .int .u8 (k : Int)] w fun e w' => e = .returned (B p) ∧ w = w') := Lib.hid (by rw [hp]; exact rmul_nat a k w hlt)
   have hlt' : (k : Int) < 256 := by omega
   have HLT := Lib.hid hlt
   clear hlt hk
   cases hb : p == 1 with
   | true =>
    have HR : Hid (inv a = UInt8.ofNat k) := Lib.hid (rinv_first a k (by rw [← hp]; simpa using hb))
    clear hp hm
    go_wp2_with (go_at_call 123; refine HC.out.mono ?_; rintro e w' ⟨rfl, rfl⟩)
    go_ret
    refine ⟨?_, rfl⟩
    rw [HR.out]
    show Ending.returned (.int .u8 (k : Int)) = _
    rw [HK.out]
   | false =>
    have HM : NoInv a (k + 1) := (fun j h2 h3 => by
     by_cases e : j = k
     ·
      rw [e, ← hp]; simpa using hb
     ·
      exact hm j h2 (by omega))
    clear hp hm
    go_wp2_with (go_at_call 123; refine HC.out.mono ?_; rintro e w' ⟨rfl, rfl⟩)
    go_round
    case rel => exact ⟨k + 1, by omega, by have := HLT.out; omega, by go_num, HM⟩
    case measure => simp [intOf]; omega
  ·
   obtain rfl : k = 256 := by omega
   have HZ : Hid (inv a = 0) := Lib.hid (by rw [inv_none a (fun j h2 h3 => hm j h2 h3)]; exact inv_zero_eq)
   go_wp2
   go_ret
   refine ⟨?_, rfl⟩
   rw [HZ.out]
   rfl
end Go.Proofs.YtfcakjpljjnjnaaGreatDoor
/- Contracts of package reedsolomon: of, inverse, factors, Row. -/
namespace Go.Proofs.YtfcakjpljjnjnaaGreatDoor
open Go.RowKit Gf

attribute [local go_sem] Gf.xor_bits Gf.and_bits Gf.or_bits Gf.ne_zero_iff Gf.eq_zero_iff Gf.eq_one_iff Gf.beq_bytes Gf.bne_bytes Gf.bv_toNat

/-- Natural numbers as ints. -/
def ints (z : List Nat) : List Int := z.map Int.ofNat
def gN (z : List Nat) (k : Nat) : Nat := z.getD k 0
theorem ints_length (z : List Nat) : (ints z).length = z.length := by simp [ints]
theorem gN_eq {z : List Nat} {k : Nat} (h : k < z.length) : gN z k = z[k] := by simp [gN, List.getD, List.getElem?_eq_getElem h]
theorem gI_ints {z : List Nat} {k : Nat} (h : k < z.length) : gI (ints z) k = (gN z k : Int) := by
 rw [gI_eq (by rw [ints_length]; exact h), gN_eq h]; simp [ints]
theorem IS.nat {w w' : World} {A : Option Addr} {n c : Nat} {z : List Nat} (h : IS w A n c (ints z)) (hb : Below w.heap.size w w') {k : Nat} (hk : k < n) : ∃ g o, A = some ⟨g, o, none⟩ ∧ w'.cell? ⟨g, o + k, none⟩ = some (.int .i64 (gN z k : Int)) := by
 obtain ⟨g, o, e, hc⟩ := h.at_ hb hk
 have hl : k < z.length := by rw [← ints_length, h.1]; exact hk
 exact ⟨g, o, e, by rw [hc, gI_ints hl]⟩

/-- The coefficients of piece i. -/
def crw (d i : Nat) : List UInt8 := (List.range d).map (coef d i)
theorem crw_length (d i : Nat) : (crw d i).length = d := by simp [crw]
def ofpart (d : Nat) (z : List Nat) (k : Nat) : List (List UInt8) := (List.range z.length).map fun j => if j < k then crw d (gN z j) else []
def ofM (d : Nat) (z : List Nat) : List (List UInt8) := z.map (crw d)
theorem ofpart_length (d : Nat) (z : List Nat) (k : Nat) : (ofpart d z k).length = z.length := by simp [ofpart]
theorem ofpart_get (d : Nat) (z : List Nat) (k i : Nat) (h : i < z.length) : gR (ofpart d z k) i = if i < k then crw d (gN z i) else [] := by
 rw [gR_eq (by rw [ofpart_length]; exact h)]; simp [ofpart]
theorem ofpart_all (d : Nat) (z : List Nat) : ofpart d z z.length = ofM d z := by
 apply List.ext_getElem (by simp [ofpart, ofM])
 intro i h1 h2
 have : i < z.length := by simpa [ofpart] using h1
 simp [ofpart, ofM, this, gN_eq this]
theorem ofpart_set (d : Nat) (z : List Nat) (k : Nat) : (ofpart d z k).set k (crw d (gN z k)) = ofpart d z (k + 1) := by
 apply List.ext_getElem (by simp [ofpart])
 intro i h1 h2
 rw [List.getElem_set]
 simp only [ofpart, List.getElem_map, List.getElem_range]
 by_cases e : k = i
 ·
  subst e; simp
 ·
  rw [if_neg e]
  by_cases e2 : i < k
  ·
   rw [if_pos e2, if_pos (by omega)]
  ·
   rw [if_neg e2, if_neg (by omega)]
theorem ofM_length (d : Nat) (z : List Nat) : (ofM d z).length = z.length := by simp [ofM]
theorem ofM_get (d : Nat) (z : List Nat) (i : Nat) (h : i < z.length) : gR (ofM d z) i = crw d (gN z i) := by
 rw [gR_eq (by rw [ofM_length]; exact h), gN_eq h]; simp [ofM]
theorem ofM_rect (d : Nat) (z : List Nat) : Rect (ofM d z) d := fun i hi => by
 rw [ofM_length] at hi
 rw [ofM_get d z i hi, crw_length]

/-- A row of the table as bytes. -/
theorem tab_row {w : World} {g d i : Nat} (h : Blk w g 185 (tblA d 16 0)) (hd : d ≤ 8) (hi : i < 16) : BS w (some ⟨g, 1 + i * 8, none⟩) d 8 (crw d i) := by
 refine ⟨crw_length d i, hd, by unfold lim; omega, fun k hk => ⟨g, 1 + i * 8, rfl, ?_⟩⟩
 rw [h.cell, show 1 + i * 8 + k = i * 8 + k + 1 by omega, tblA_get _ _ _ _ (by omega)]
 have e : tcell d 16 0 (i * 8 + k) = gB (crw d i) k := by
  rw [gB_eq (by rw [crw_length]; exact hk)]
  unfold tcell
  rw [if_pos (by omega), show (i * 8 + k) / 8 = i by omega, show (i * 8 + k) % 8 = k by omega]
  simp [crw]
 rw [e]

def OfI (d : Nat) (z : List Nat) (k : Nat) (w wr : World) : Prop := ∃ cs, RowsBlk wr w.heap.size 39 cs (ofpart d z k) ∧ Below w.heap.size w wr

set_option maxHeartbeats 4000000 in
theorem of_any (gt d : Nat) (A : Option Addr) (n c : Nat) (z : List Nat) (w : World) (ht : Blk w gt 185 (tblA d 16 0)) (hd : d ≤ 8) (h : IS w A n c (ints z)) (hz : ∀ i, i < n → gN z i < 16) (hn : n ≤ 1000) :
  Calls Tryz.prog 94 #[.pointer (some ⟨gt, 0, none⟩), .slice A n c] w (Rets (NewM 39 (ofM d z)) w) := by
 have hmk := make_rows n (by omega)
 have hzl : z.length = n := by rw [← ints_length, h.1]
 have HZ := Lib.hid hzl
 clear hzl
 go_enter Tryz.func94, Tryz.ntmps94
 go_wp2
 clear hmk
 go_loopw [13] (fun i wr => ∃ k : Nat, k ≤ n ∧ i = .int .i64 (k : Int) ∧ OfI d z k w wr) (fun i _ => n - (intOf i).toNat)
 case atStart =>
  refine ⟨0, by omega, rfl, _, ⟨Blk.new _ _ _, by rw [ofpart_length, HZ.out]; simp, fun i hi => ?_⟩, (Below.refl _ _).alloc (Nat.le_refl _) _⟩
  rw [ofpart_length] at hi
  refine ⟨none, 0, 0, by rw [HZ.out] at hi; simp [hi], ?_⟩
  rw [ofpart_get _ _ _ _ hi, if_neg (by omega)]
  exact BS.nil
 case round =>
  obtain ⟨k, hk, rfl, cs', h1, hb⟩ := hrel
  by_cases hlt : k < n
  ·
   obtain ⟨gi, oi, rfl, hci⟩ := h.nat hb hlt
   have ht1 := ht.kept hb
   have hz16 := hz k hlt
   have hz16' : (gN z k : Int) < 16 := by omega
   have hd0 : w.cell? ⟨gt, 0, none⟩ = some (.int .i64 (d : Int)) := by rw [ht.cell, tblA_zero]
   have cd := cell_kept hb hd0
   have hgt : gt < wr.heap.size := ht1.lt
   have HD := Lib.hid (tab_row ht1 hd hz16)
   obtain ⟨A0, n0, c0, hc0, _⟩ := h1.cell (i := k) (by rw [ofpart_length, HZ.out]; exact hlt)
   have HB := Lib.hid hb
   have H1 := Lib.hid h1
   have hd8 : (d : Int) ≤ 8 := by omega
   clear hb h1 ht1 hd0
   go_wp2
   refine Text.wp_region_text (fun w' => w'.cell? ⟨gt, 0, none⟩ = some (.int .i64 (d : Int))) [(0, 4), (1, 4), (3, 4), (4, 4), (5, 4), (6, 4), (7, 4), (8, 4), (9, 4), (10, 4), (11, 0), (12, 4), (2, 2), (13, 2), (14, 4), (15, 2)] (by kernel_rfl) (by kernel_rfl) (fun _ _ _ _ _ h => h) (cd) ?_
   iterate 10 (refine Text.purek rfl rfl (fun K hK => ⟨_, fun w' => by go_simp <;> rfl, ?_⟩); go_simp; refine hK _ ?_; clear hK K)
   (refine Text.heldk rfl rfl (fun K hK => ⟨_, fun w' hw' => by go_simp <;> rfl, ?_⟩); go_simp; refine hK _ ?_; clear hK K)
   (refine Text.purek rfl rfl (fun K hK => ⟨_, fun w' => by go_simp <;> rfl, ?_⟩); go_simp; refine hK _ ?_; clear hK K)
   refine Text.eff rfl rfl (fun K hK => ?_)
   go_simp
   obtain ⟨wA, hwA⟩ : ∃ wA, wA = (wr.alloc (.cells #[] 5)).drew := ⟨_, rfl⟩
   have HBA : Hid (Below wr.heap.size wr wA) := by rw [hwA]; exact Lib.hid ((Below.refl _ _).alloc (Nat.le_refl _) _).drew
   have HOA : Hid (wA.ownsRow wr.heap.size 5 1 (.slice (some ⟨wr.heap.size, 0, none⟩) 0 0) 0 (([] : List UInt8).map B)) := by
    rw [hwA]; exact Lib.hid (World.ownsRow_lit wr #[] 0 (Nat.le_refl _) (by simp [maxLen]) rfl)
   rw [← hwA]
   refine hK _ _ (cell_kept HBA.out cd) ?_
   clear hK K hwA
   refine Text.eff rfl rfl (fun K hK => ?_)
   refine wp_appB wA (.tmp 20) (.tmp 30) rfl wr.heap.size (.slice (some ⟨wr.heap.size, 0, none⟩) 0 0) 0 [] rfl HOA.out (some ⟨gt, 1 + gN z k * 8, none⟩) d 8 (crw d (gN z k)) rfl (HD.out.kept HBA.out) (by omega) HBA.out.size ?_
   intro v1 w3 hp1
   have hb3 : Below wr.heap.size wr w3 := HBA.out.grown hp1.2.1 HBA.out.size (by simp [Value.ownBlock])
   obtain ⟨A3, c3, rfl, hbs3⟩ := BS.of_own hp1.1 (by unfold lim; omega)
   rw [Nat.zero_add] at hbs3
   have hc3 := cell_kept hb3 hc0
   have hf3 := (H1.out.1.kept hb3).frozen k
   have cd3 := cell_kept hb3 cd
   have HB3 := Lib.hid hb3
   have HBS3 := Lib.hid hbs3
   clear hp1 hb3 hbs3
   go_simp
   refine hK _ _ cd3 ?_
   clear hK K
   (refine Text.purek rfl rfl (fun K hK => ⟨_, fun w' => by go_simp <;> rfl, ?_⟩); go_simp; refine hK _ ?_; clear hK K)
   refine Text.eff rfl rfl (fun K hK => ?_)
   go_simp
   have HR : Hid (OfI d z (k + 1) w (w3.setCell ⟨w.heap.size, k, none⟩ (.slice A3 d c3))) := by
    have h4 := (H1.out.kept HB3.out).set_ (i := k) (by rw [ofpart_length, HZ.out]; exact hlt) HBS3.out
    rw [List.nil_append, ofpart_set] at h4
    exact Lib.hid ⟨_, h4, (below_thenB HB.out HB.out.size HB3.out).setCell (Nat.le_refl _) _⟩
   have hgtw : gt ≠ w.heap.size := by have := ht.lt; omega
   refine hK _ _ (cell_set_ne cd3 (by simp <;> omega)) ?_
   clear hK K
   refine Text.done ?_
   go_wp2
   go_roundw
   case rel => exact ⟨k + 1, by omega, by go_num, HR.out⟩
   case measure => simp [intOf]; omega
  ·
   obtain rfl : k = n := by omega
   have HR : Hid (NewM 39 (ofM d z) w (.slice (some ⟨w.heap.size, 0, none⟩) k k) wr) := by
    have h2 := h1
    rw [← HZ.out, ofpart_all] at h2
    exact Lib.hid ⟨w.heap.size, cs', k, rfl, by rw [ofM_length, HZ.out], Nat.le_refl _, h2, hb⟩
   clear h1 hb
   go_wp2
   go_ret
   exact ⟨_, rfl, HR.out⟩

/-- What pieces give the blocks: the inverse of their rows. -/
def invT (d : Nat) (z : List Nat) : List (List UInt8) := invM (ofM d (z.take d)) d
/-- The rows of these pieces have an inverse that elimination finds. -/
def Reg (d : Nat) (z : List Nat) : Prop := (elimI (ofM d (z.take d)) d).2 = d
theorem gN_take {z : List Nat} {d k : Nat} (h : k < d) : gN (z.take d) k = gN z k := by
 unfold gN; rw [List.getD_eq_getElem?_getD, List.getD_eq_getElem?_getD, List.getElem?_take, if_pos h]
theorem IS.take {w : World} {A : Option Addr} {n c d : Nat} {z : List Nat} (h : IS w A n c (ints z)) (hd : d ≤ n) : IS w A d c (ints (z.take d)) := by
 have hl : z.length = n := by rw [← ints_length, h.1]
 refine ⟨by rw [ints_length, List.length_take]; omega, by have := h.2.1; omega, by have := h.2.2.1; omega, fun k hk => ?_⟩
 obtain ⟨g, o, e, hc⟩ := h.2.2.2 k (by omega)
 refine ⟨g, o, e, ?_⟩
 rw [hc]
 show some (Value.int .i64 (gI (ints z) k)) = some (Value.int .i64 (gI (ints (z.take d)) k))
 rw [gI_ints (by omega), gI_ints (by rw [List.length_take]; omega), gN_take hk]

theorem NewM.ms {t : TypeId} {m : List (List UInt8)} {w w' : World} {v : Value} (h : NewM t m w v w') (hl : m.length * 24 ≤ lim) : ∃ g n, v = .slice (some ⟨g, 0, none⟩) n n ∧ m.length = n ∧ MS w' (some ⟨g, 0, none⟩) n n m ∧ Below w.heap.size w w' := by
 obtain ⟨g, cs, n, e, hn, _, hr, hb⟩ := h
 exact ⟨g, n, e, hn, hr.toMS hn (Nat.le_refl _) (by rw [← hn]; exact hl), hb⟩
theorem invM_length (m : List (List UInt8)) (n : Nat) : (invM m n).length = n := by simp [invM]

set_option maxHeartbeats 4000000 in
theorem inverse_t (gt d : Nat) (A : Option Addr) (n c : Nat) (z : List Nat) (w : World) (ht : Blk w gt 185 (tblA d 16 0)) (hd : d ≤ 8) (hd0 : 0 < d) (h : IS w A n c (ints z)) (hz : ∀ i, i < n → gN z i < 16) (hn : d ≤ n) (hreg : Reg d z) :
  Calls Tryz.prog 118 #[.pointer (some ⟨gt, 0, none⟩), .slice A n c] w (Rets (NewM 39 (invT d z)) w) := by
 have hcd : w.cell? ⟨gt, 0, none⟩ = some (.int .i64 (d : Int)) := by rw [ht.cell, tblA_zero]
 have hnc := h.2.1
 have h2 := h.take hn
 have hl := h.len_le
 obtain ⟨g, o, rfl, _⟩ := h.nat (Below.refl _ _) (show 0 < n by omega)
 have q1 : (d : Int) ≤ (c : Int) := by omega
 have HT := Lib.hid ht
 clear ht
 go_enter Tryz.func118, Tryz.ntmps118
 go_wp2_with fail
 refine (of_any gt d _ d c (z.take d) w HT.out hd h2 (fun i hi => by rw [gN_take hi]; exact hz i (by omega)) (by omega)).mono ?_
 rintro e w1 ⟨v, rfl, hv⟩
 obtain ⟨g1, n1, rfl, hn1, hms, hb1⟩ := hv.ms (by
  rw [ofM_length, List.length_take]
  have : z.length = n := by rw [← ints_length, h.1]
  unfold lim; omega)
 obtain rfl : n1 = d := by
  rw [← hn1, ofM_length, List.length_take]
  have : z.length = n := by rw [← ints_length, h.1]
  omega
 clear hv hn1
 go_wp2_with fail
 refine (inverse_any _ n1 n1 _ w1 hms (ofM_rect _ _) hd0 (by omega) hreg).mono ?_
 rintro e w2 ⟨v2, rfl, g2, cs2, n2, rfl, hn2, hg2, hr2, hb2⟩
 have HR : Hid (NewM 39 (invT n1 z) w (.slice (some ⟨g2, 0, none⟩) n2 n2) w2) := Lib.hid ⟨g2, cs2, n2, rfl, hn2, Nat.le_trans hb1.size hg2, hr2, below_then hb1 hb2⟩
 clear hn2 hr2 hb1 hb2
 go_wp2
 go_ret
 exact ⟨_, rfl, HR.out⟩
end Go.Proofs.YtfcakjpljjnjnaaGreatDoor
/- Contracts of package reedsolomon: factors, Row, oneLength; slices.Clone of rows. -/
namespace Go.Proofs.YtfcakjpljjnjnaaGreatDoor
open Go.RowKit Gf

attribute [local go_sem] Gf.xor_bits Gf.and_bits Gf.or_bits Gf.ne_zero_iff Gf.eq_zero_iff Gf.eq_one_iff Gf.beq_bytes Gf.bne_bytes Gf.bv_toNat

theorem redS_rect {m : List (List UInt8)} {L np col : Nat} (h : Rect m L) : Rect (redS m np col).1 L ∧ (redS m np col).1.length = m.length := by
 cases hp : pvF m np col with
 | none => rw [redS_none hp]; exact ⟨h, rfl⟩
 | some f =>
  rw [redS_some hp]
  obtain ⟨h1, h2, _⟩ := pvF_spec hp
  exact ⟨clr_rect _ L np col _ (swp_rect m L np f h (by omega) h2) (by rw [swp_length]; omega), by rw [clr_length, swp_length]⟩
theorem red_rect {m : List (List UInt8)} {L : Nat} (h : Rect m L) : ∀ k, Rect (red m k).1 L ∧ (red m k).1.length = m.length
 | 0 => ⟨h, rfl⟩
 | k + 1 => by
  have ih := red_rect h k
  have := redS_rect (np := (red m k).2) (col := k) ih.1
  exact ⟨this.1, this.2.trans ih.2⟩
theorem invM_rect {m : List (List UInt8)} {n : Nat} (h : Rect m n) (hl : m.length = n) : Rect (invM m n) n := by
 intro i hi
 rw [invM_length] at hi
 rw [gR_eq (by rw [invM_length]; exact hi)]
 have hj : Rect (jmat m (idm n) n) (n + n) := fun k hk => by
  rw [jmat_length] at hk
  rw [jmat_get _ _ _ _ hk]
  exact jrow_length m (idm n) n k h (idm_rect n) (by rw [hl]; exact hk) (by rw [idm_length]; exact hk)
 have hr := red_rect hj n
 have := hr.1 i (by rw [hr.2, jmat_length]; exact hi)
 simp only [invM, List.getElem_map, List.getElem_range, invrow, elimI, List.length_drop, this]
 omega
theorem invT_rect {d : Nat} {z : List Nat} (h : d ≤ z.length) : Rect (invT d z) d := invM_rect (ofM_rect d _) (by rw [ofM_length, List.length_take]; omega)
theorem invT_length (d : Nat) (z : List Nat) : (invT d z).length = d := invM_length _ _

end Go.Proofs.YtfcakjpljjnjnaaGreatDoor
