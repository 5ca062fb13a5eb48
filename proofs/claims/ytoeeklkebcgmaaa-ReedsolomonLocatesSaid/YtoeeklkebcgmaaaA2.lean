/- Several texts in one: Rs1, Rs2, Rs3, Rs4, Rs5, Rs6, Rs7, Str, Rs8, Rs9, Rs10, Rs11, Bits, Rs12, Rs13, Text2, Text3. -/
import Derived.Test.YtoeeklkebcgmaaaA1
import Derived.Laws.BytesArg
/- Contracts of package reedsolomon: Valid, newTable, of. -/
namespace Go.Proofs.Ytoeeklkebcgmaaa
open Go.RowKit Gf

attribute [local go_sem] Gf.xor_bits Gf.and_bits Gf.or_bits Gf.ne_zero_iff Gf.eq_zero_iff Gf.eq_one_iff Gf.beq_bytes Gf.bne_bytes Gf.bv_toNat

/-- Valid, as a Bool that the walk does not take apart. -/
def vldB (d t : Int) : Bool := decide (1 ≤ d ∧ d ≤ 8 ∧ d ≤ t ∧ t ≤ 16)
theorem vld_iff {d t : Int} : vldB d t = true ↔ 1 ≤ d ∧ d ≤ 8 ∧ d ≤ t ∧ t ≤ 16 := by simp [vldB]
theorem vld_false {d t : Int} (h : ¬ (1 ≤ d ∧ d ≤ 8 ∧ d ≤ t ∧ t ≤ 16)) : vldB d t = false := by simp [vldB]; omega
theorem ret_bool {a b : Bool} (h : a = b) : Ending.returned (.bool a) = .returned (.bool b) := by rw [h]

set_option maxHeartbeats 1000000 in
theorem rsvalid_any (d t : Int) (w : World) :
    Calls Try.prog 11 #[.int .i64 d, .int .i64 t] w fun e w' => e = .returned (.bool (vldB d t)) ∧ w = w' := by
  by_cases h1 : 1 ≤ d
  · by_cases h2 : d ≤ 8
    · by_cases h3 : d ≤ t
      · by_cases h4 : t ≤ 16
        · have e1 : decide (1 ≤ d) = true := by simpa using h1
          have e2 : decide (d ≤ 8) = true := by simpa using h2
          have e3 : decide (d ≤ t) = true := by simpa using h3
          have e4 : decide (t ≤ 16) = true := by simpa using h4
          have HV := Lib.hid (vld_iff.2 ⟨h1, h2, h3, h4⟩)
          go_enter Try.func11, Try.ntmps11
          go_wp2
          go_ret
          exact ⟨ret_bool (by rw [HV.out]), rfl⟩
        · have e1 : decide (1 ≤ d) = true := by simpa using h1
          have e2 : decide (d ≤ 8) = true := by simpa using h2
          have e3 : decide (d ≤ t) = true := by simpa using h3
          have e4 : decide (t ≤ 16) = false := by simpa using h4
          have HV := Lib.hid (vld_false (d := d) (t := t) (by omega))
          go_enter Try.func11, Try.ntmps11
          go_wp2
          go_ret
          exact ⟨ret_bool (by rw [HV.out]), rfl⟩
      · have e1 : decide (1 ≤ d) = true := by simpa using h1
        have e2 : decide (d ≤ 8) = true := by simpa using h2
        have e3 : decide (d ≤ t) = false := by simpa using h3
        have HV := Lib.hid (vld_false (d := d) (t := t) (by omega))
        go_enter Try.func11, Try.ntmps11
        go_wp2
        go_ret
        exact ⟨ret_bool (by rw [HV.out]), rfl⟩
    · have e1 : decide (1 ≤ d) = true := by simpa using h1
      have e2 : decide (d ≤ 8) = false := by simpa using h2
      have HV := Lib.hid (vld_false (d := d) (t := t) (by omega))
      go_enter Try.func11, Try.ntmps11
      go_wp2
      go_ret
      exact ⟨ret_bool (by rw [HV.out]), rfl⟩
  · have e1 : decide (1 ≤ d) = false := by simpa using h1
    have HV := Lib.hid (vld_false (d := d) (t := t) (by omega))
    go_enter Try.func11, Try.ntmps11
    go_wp2
    go_ret
    exact ⟨ret_bool (by rw [HV.out]), rfl⟩

theorem inv_int (x : Int) (w : World) (hx : 0 < x) (hx' : x < 256) :
    Calls Try.prog 52 #[.int .u8 x] w fun e w' => e = .returned (.tuple #[B (inv (UInt8.ofNat x.toNat)), .int .i64 0]) ∧ w = w' := by
  have hne : (UInt8.ofNat x.toNat == 0) = false := by
    rw [beq_eq_false_iff_ne]
    intro e
    have h1 := bv_ofNat x (by omega) hx'
    rw [e] at h1
    have : bv 0 = 0 := rfl
    omega
  have h := inv_any (UInt8.ofNat x.toNat) hne w
  rw [B, bv_ofNat x (by omega) hx'] at h
  exact h

/-- The coefficient of piece i for block c. -/
def coef (d i c : Nat) : UInt8 := if d ≤ i then inv (UInt8.ofNat (i ^^^ c)) else if i = c then 1 else 0
/-- The table after r rows and k columns of row r. -/
def tcell (d r k j : Nat) : UInt8 := if j % 8 < d ∧ (j / 8 < r ∨ (j / 8 = r ∧ j % 8 < k)) then coef d (j / 8) (j % 8) else 0
def tlist (d r k : Nat) : List UInt8 := (List.range 128).map (tcell d r k)
theorem tlist_length (d r k : Nat) : (tlist d r k).length = 128 := by simp [tlist]
theorem tlist_get (d r k j : Nat) (h : j < 128) : gB (tlist d r k) j = tcell d r k j := by
  rw [gB_eq (by rw [tlist_length]; exact h)]; simp [tlist]
def tblA (d r k : Nat) : Array Value := #[.int .i64 (d : Int)] ++ row (tlist d r k)
theorem tblA_size (d r k : Nat) : (tblA d r k).size = 129 := by simp [tblA, row_size, tlist_length]
theorem tblA_get (d r k j : Nat) (h : j < 128) : (tblA d r k)[j + 1]? = some (B (tcell d r k j)) := by
  rw [tblA, Array.getElem?_append_right (by simp), show j + 1 - (#[Value.int .i64 (d : Int)] : Array Value).size = j by simp, row_get _ _ (by rw [tlist_length]; exact h), tlist_get _ _ _ _ h]
theorem tblA_zero (d r k : Nat) : (tblA d r k)[0]? = some (.int .i64 (d : Int)) := by rw [tblA, Array.getElem?_append_left (by simp)]; rfl
theorem tblA_set (d r k : Nat) (_hr : r < 16) (hk : k < 8) (hkd : k < d) : (tblA d r k).setIfInBounds (1 + r * 8 + k) (B (coef d r k)) = tblA d r (k + 1) := by
  have e : tblA d r (k + 1) = #[.int .i64 (d : Int)] ++ row ((tlist d r k).set (r * 8 + k) (coef d r k)) := by
    have : tlist d r (k + 1) = (tlist d r k).set (r * 8 + k) (coef d r k) := by
      apply List.ext_getElem (by simp [tlist])
      intro j h1 h2
      rw [List.getElem_set]
      simp only [tlist, List.getElem_map, List.getElem_range]
      by_cases e : r * 8 + k = j
      · rw [if_pos e]
        subst e
        unfold tcell
        rw [if_pos (by omega), show (r * 8 + k) / 8 = r by omega, show (r * 8 + k) % 8 = k by omega]
      · rw [if_neg e]
        unfold tcell
        by_cases e2 : j % 8 < d ∧ (j / 8 < r ∨ (j / 8 = r ∧ j % 8 < k))
        · rw [if_pos e2, if_pos (by omega)]
        · rw [if_neg e2, if_neg (by omega)]
    rw [tblA, this]
  rw [e, tblA, show 1 + r * 8 + k = r * 8 + k + 1 by omega, Array.setIfInBounds_append_right (by simp), ← row_set]
  simp
theorem tlist_next (d r : Nat) (_hd : d ≤ 8) : tlist d r d = tlist d (r + 1) 0 := by
  apply List.ext_getElem (by simp [tlist])
  intro j h1 h2
  simp only [tlist, List.getElem_map, List.getElem_range, tcell]
  by_cases e2 : j % 8 < d ∧ (j / 8 < r ∨ (j / 8 = r ∧ j % 8 < d))
  · rw [if_pos e2, if_pos (by omega)]
  · rw [if_neg e2, if_neg (by omega)]
theorem tlist_start (d : Nat) : tlist d 0 0 = zeros 128 := by
  apply List.ext_getElem (by simp [tlist, zeros])
  intro j h1 h2
  simp only [tlist, List.getElem_map, List.getElem_range, tcell, zeros, List.getElem_replicate]
  rw [if_neg (by omega)]
/-- A zero need not be stored. -/
theorem tblA_skip (d r k : Nat) (_hr : r < 16) (hk : k < 8) (hkd : k < d) (h0 : coef d r k = 0) : tblA d r k = tblA d r (k + 1) := by
  unfold tblA
  congr 2
  apply List.ext_getElem (by simp [tlist])
  intro j h1 h2
  simp only [tlist, List.getElem_map, List.getElem_range, tcell]
  by_cases e : r * 8 + k = j
  · subst e
    rw [if_neg (by omega), if_pos (by omega), show (r * 8 + k) / 8 = r by omega, show (r * 8 + k) % 8 = k by omega, h0]
  · by_cases e2 : j % 8 < d ∧ (j / 8 < r ∨ (j / 8 = r ∧ j % 8 < k))
    · rw [if_pos e2, if_pos (by omega)]
    · rw [if_neg e2, if_neg (by omega)]

theorem zero_table : Try.zeroCells80 = #[.int .i64 0] ++ row (zeros 128) := by kernel_rfl
theorem tbl_start (d : Nat) : tblA d 0 0 = Try.zeroCells80.setIfInBounds 0 (.int .i64 (d : Int)) := by
  unfold tblA
  rw [tlist_start, zero_table, Array.setIfInBounds_append_left (by simp)]
  rfl

def TabI (d r k g : Nat) (w wr : World) : Prop := Blk wr g 80 (tblA d r k) ∧ Below w.heap.size w wr

theorem xor_lt16 {a b : Nat} (ha : a < 16) (hb : b < 16) : a ^^^ b < 16 := Nat.xor_lt_two_pow (n := 4) ha hb
theorem xor_pos16 : ∀ a, a < 16 → ∀ b, b < 16 → a ≠ b → 0 < a ^^^ b := by decide
theorem wrap8_nat (n : Nat) (h : n < 256) : IntKind.u8.wrap (n : Int) = (n : Int) := by
  show (n : Int) % 256 = n
  omega
theorem ofInt_i64 (a : Nat) (ha : a < 9223372036854775808) : (BitVec.ofInt 64 (a : Int)).toNat = a := by
  rw [BitVec.ofInt_natCast, BitVec.toNat_ofNat]; exact Nat.mod_eq_of_lt (by omega)
theorem i64_xor_nat (a b : Nat) (ha : a < 9223372036854775808) (hb : b < 9223372036854775808) : bits .xor .i64 (a : Int) (b : Int) = ((a ^^^ b : Nat) : Int) := by
  have hx : a ^^^ b < 2 ^ 63 := Nat.xor_lt_two_pow (by omega) (by omega)
  show IntKind.i64.wrap ((BitVec.ofInt 64 (a : Int) ^^^ BitVec.ofInt 64 (b : Int)).toNat : Int) = _
  rw [BitVec.toNat_xor, ofInt_i64 a ha, ofInt_i64 b hb, IntKind.wrap_i64]
  omega

set_option maxRecDepth 100000 in
set_option maxHeartbeats 4000000 in
theorem newTable_any (d : Nat) (w : World) (hd : d ≤ 8) :
    Calls Try.prog 33 #[.int .i64 (d : Int)] w fun e w' => e = .returned (.pointer (some ⟨w.heap.size, 0, none⟩)) ∧ TabI d 16 0 w.heap.size w w' := by
  go_enter Try.func33, Try.ntmps33
  go_wp2
  go_loopw [9] (fun i wr => ∃ r : Nat, r ≤ 16 ∧ i = .int .i64 (r : Int) ∧ TabI d r 0 w.heap.size w wr) (fun i _ => 16 - (intOf i).toNat)
  case atStart =>
    refine ⟨0, by omega, rfl, ?_, (Below.refl _ _).alloc (Nat.le_refl _) _⟩
    rw [tbl_start]
    exact Blk.new w _ _
  case round =>
    obtain ⟨r, hr, rfl, h1, hb⟩ := hrel
    by_cases hlt : r < 16
    · have hr16' : (r : Int) < 16 := by omega
      have HI : Hid (TabI d r 0 w.heap.size w wr) := Lib.hid ⟨h1, hb⟩
      clear h1 hb
      go_wp2
      obtain ⟨wo, rfl⟩ : ∃ wo : World, wo = wr := ⟨_, rfl⟩
      go_loopw [13] (fun i wr => ∃ k : Nat, k ≤ d ∧ i = .int .i64 (k : Int) ∧ TabI d r k w.heap.size w wr) (fun i _ => d - (intOf i).toNat)
      case atStart => exact ⟨0, by omega, rfl, HI.out⟩
      case round =>
        obtain ⟨k, hk, rfl, h2, hb2⟩ := hrel
        by_cases hlt2 : k < d
        · have hc : wr.cell? ⟨w.heap.size, 1 + r * 8 + k, none⟩ = some (B (tcell d r k (r * 8 + k))) := by
            rw [h2.cell, show 1 + r * 8 + k = r * 8 + k + 1 by omega, tblA_get _ _ _ _ (by omega)]
          have hf := h2.frozen (1 + r * 8 + k)
          have hk8 : k < 8 := by omega
          have hk8' : (k : Int) < 8 := by omega
          by_cases hdr : d ≤ r
          · have hx := i64_xor_nat r k (by omega) (by omega)
            have hx16 := xor_lt16 hlt (show k < 16 by omega)
            have hx0 : 0 < r ^^^ k := xor_pos16 r hlt k (by omega) (by omega)
            have hw8 := wrap8_nat (r ^^^ k) (by omega)
            have HS := Lib.hid (tblA_set d r k hlt (by omega) hlt2)
            have HCO : Hid (coef d r k = inv (UInt8.ofNat (r ^^^ k))) := Lib.hid (by unfold coef; rw [if_pos hdr])
            have H2 := Lib.hid h2
            have HB2 := Lib.hid hb2
            clear h2 hb2
            go_wp2
            refine Text.wp_region_text (fun _ => True) [(0, 4), (1, 4), (2, 4), (3, 4), (4, 4), (5, 4), (6, 4), (11, 4), (12, 4), (13, 4), (7, 1), (8, 4), (9, 4), (10, 4), (14, 4), (15, 2)] (by kernel_rfl) (by kernel_rfl) (fun _ _ _ _ _ h => h) (trivial) ?_
            iterate 10 (refine Text.purek rfl rfl (fun K hK => ⟨_, fun w' => by go_simp <;> rfl, ?_⟩); go_simp; refine hK _ ?_; clear hK K)
            refine Text.quietk rfl rfl (fun K hK => ?_)
            refine ⟨_, _, _, by go_simp <;> rfl, inv_int ((r ^^^ k : Nat) : Int) _ (by omega) (by omega), ?_⟩
            rw [Int.toNat_natCast, ← HCO.out]
            go_simp
            refine hK _ ?_
            clear hK K
            iterate 4 (refine Text.purek rfl rfl (fun K hK => ⟨_, fun w' => by go_simp <;> rfl, ?_⟩); go_simp; refine hK _ ?_; clear hK K)
            refine Text.eff rfl rfl (fun K hK => ?_)
            go_simp
            refine hK _ _ trivial ?_
            clear hK K
            refine Text.done ?_
            have HR : Hid (TabI d r (k + 1) w.heap.size w (wr.setCell ⟨w.heap.size, 1 + r * 8 + k, none⟩ (B (coef d r k)))) := by
              have h3 := H2.out.set_ (1 + r * 8 + k) (B (coef d r k))
              rw [HS.out] at h3
              exact Lib.hid ⟨h3, HB2.out.setCell (p := ⟨w.heap.size, 1 + r * 8 + k, none⟩) (Nat.le_refl _) _⟩
            go_wp2
            go_roundw
            case rel => exact ⟨k + 1, by omega, by go_num, HR.out.1.drew, HR.out.2.drew⟩
            case measure => simp [intOf]; omega
          · by_cases hrk : r = k
            · have HS := Lib.hid (tblA_set d r k hlt (by omega) hlt2)
              have HCO : Hid (coef d r k = 1) := Lib.hid (by unfold coef; rw [if_neg hdr, if_pos hrk])
              have HR : Hid (TabI d r (k + 1) w.heap.size w (wr.setCell ⟨w.heap.size, 1 + r * 8 + k, none⟩ (.int .u8 1))) := by
                have h3 := h2.set_ (1 + r * 8 + k) (B (coef d r k))
                rw [HS.out, HCO.out] at h3
                exact Lib.hid ⟨h3, hb2.setCell (p := ⟨w.heap.size, 1 + r * 8 + k, none⟩) (Nat.le_refl _) _⟩
              have hq : ((r : Int) == (k : Int)) = true := by simp [hrk]
              have HRK := Lib.hid hrk
              clear h2 hb2 hrk
              go_wp2
              go_roundw
              case rel => exact ⟨k + 1, by omega, by go_num, HR.out⟩
              case measure => simp [intOf]; omega
            · have HR : Hid (TabI d r (k + 1) w.heap.size w wr) := by
                refine Lib.hid ⟨?_, hb2⟩
                rw [← tblA_skip d r k hlt (by omega) hlt2 (by unfold coef; rw [if_neg hdr, if_neg hrk])]
                exact h2
              have hq : ((r : Int) == (k : Int)) = false := by simp; omega
              clear h2 hb2
              go_wp2
              go_roundw
              case rel => exact ⟨k + 1, by omega, by go_num, HR.out⟩
              case measure => simp [intOf]; omega
        · obtain rfl : k = d := by omega
          have HR : Hid (TabI k (r + 1) 0 w.heap.size w wr) := by
            refine Lib.hid ⟨?_, hb2⟩
            unfold tblA at h2 ⊢
            rw [← tlist_next k r hd]
            exact h2
          clear h2 hb2
          go_wp2
          go_roundw
          case rel => exact ⟨r + 1, by omega, by go_num, HR.out⟩
          case measure => simp [intOf]; omega
    · obtain rfl : r = 16 := by omega
      have HR : Hid (TabI d 16 0 w.heap.size w wr) := Lib.hid ⟨h1, hb⟩
      clear h1 hb
      go_wp2
      go_ret
      exact ⟨rfl, HR.out⟩
end Go.Proofs.Ytoeeklkebcgmaaa
/- Contracts of package reedsolomon: of, inverse, factors, Row. -/
namespace Go.Proofs.Ytoeeklkebcgmaaa
open Go.RowKit Gf

attribute [local go_sem] Gf.xor_bits Gf.and_bits Gf.or_bits Gf.ne_zero_iff Gf.eq_zero_iff Gf.eq_one_iff Gf.beq_bytes Gf.bne_bytes Gf.bv_toNat

/-- Natural numbers as ints. -/
def ints (z : List Nat) : List Int := z.map Int.ofNat
def gN (z : List Nat) (k : Nat) : Nat := z.getD k 0
theorem ints_length (z : List Nat) : (ints z).length = z.length := by simp [ints]
theorem gN_eq {z : List Nat} {k : Nat} (h : k < z.length) : gN z k = z[k] := by simp [gN, List.getD, List.getElem?_eq_getElem h]
theorem gI_ints {z : List Nat} {k : Nat} (h : k < z.length) : gI (ints z) k = (gN z k : Int) := by
  rw [gI_eq (by rw [ints_length]; exact h), gN_eq h]; simp [ints]
theorem IS.nat {w w' : World} {A : Option Addr} {n c : Nat} {z : List Nat} (h : IS w A n c (ints z)) (hb : Below w.heap.size w w') {k : Nat} (hk : k < n) : ∃ g o, A = some ⟨g, o, none⟩ ∧ w'.cell? ⟨g, o + k, none⟩ = some (.int .i64 (gN z k : Int)) := by
  obtain ⟨g, o, e, hc⟩ := h.at_ hb hk
  have hl : k < z.length := by rw [← ints_length, h.1]; exact hk
  exact ⟨g, o, e, by rw [hc, gI_ints hl]⟩

/-- The coefficients of piece i. -/
def crw (d i : Nat) : List UInt8 := (List.range d).map (coef d i)
theorem crw_length (d i : Nat) : (crw d i).length = d := by simp [crw]
def ofpart (d : Nat) (z : List Nat) (k : Nat) : List (List UInt8) := (List.range z.length).map fun j => if j < k then crw d (gN z j) else []
def ofM (d : Nat) (z : List Nat) : List (List UInt8) := z.map (crw d)
theorem ofpart_length (d : Nat) (z : List Nat) (k : Nat) : (ofpart d z k).length = z.length := by simp [ofpart]
theorem ofpart_get (d : Nat) (z : List Nat) (k i : Nat) (h : i < z.length) : gR (ofpart d z k) i = if i < k then crw d (gN z i) else [] := by
  rw [gR_eq (by rw [ofpart_length]; exact h)]; simp [ofpart]
theorem ofpart_all (d : Nat) (z : List Nat) : ofpart d z z.length = ofM d z := by
  apply List.ext_getElem (by simp [ofpart, ofM])
  intro i h1 h2
  have : i < z.length := by simpa [ofpart] using h1
  simp [ofpart, ofM, this, gN_eq this]
theorem ofpart_set (d : Nat) (z : List Nat) (k : Nat) : (ofpart d z k).set k (crw d (gN z k)) = ofpart d z (k + 1) := by
  apply List.ext_getElem (by simp [ofpart])
  intro i h1 h2
  rw [List.getElem_set]
  simp only [ofpart, List.getElem_map, List.getElem_range]
  by_cases e : k = i
  · subst e; simp
  · rw [if_neg e]
    by_cases e2 : i < k
    · rw [if_pos e2, if_pos (by omega)]
    · rw [if_neg e2, if_neg (by omega)]
theorem ofM_length (d : Nat) (z : List Nat) : (ofM d z).length = z.length := by simp [ofM]
theorem ofM_get (d : Nat) (z : List Nat) (i : Nat) (h : i < z.length) : gR (ofM d z) i = crw d (gN z i) := by
  rw [gR_eq (by rw [ofM_length]; exact h), gN_eq h]; simp [ofM]
theorem ofM_rect (d : Nat) (z : List Nat) : Rect (ofM d z) d := fun i hi => by
  rw [ofM_length] at hi
  rw [ofM_get d z i hi, crw_length]

/-- A row of the table as bytes. -/
theorem tab_row {w : World} {g d i : Nat} (h : Blk w g 80 (tblA d 16 0)) (hd : d ≤ 8) (hi : i < 16) : BS w (some ⟨g, 1 + i * 8, none⟩) d 8 (crw d i) := by
  refine ⟨crw_length d i, hd, by unfold lim; omega, fun k hk => ⟨g, 1 + i * 8, rfl, ?_⟩⟩
  rw [h.cell, show 1 + i * 8 + k = i * 8 + k + 1 by omega, tblA_get _ _ _ _ (by omega)]
  have e : tcell d 16 0 (i * 8 + k) = gB (crw d i) k := by
    rw [gB_eq (by rw [crw_length]; exact hk)]
    unfold tcell
    rw [if_pos (by omega), show (i * 8 + k) / 8 = i by omega, show (i * 8 + k) % 8 = k by omega]
    simp [crw]
  rw [e]

def OfI (d : Nat) (z : List Nat) (k : Nat) (w wr : World) : Prop := ∃ cs, RowsBlk wr w.heap.size 22 cs (ofpart d z k) ∧ Below w.heap.size w wr

set_option maxHeartbeats 4000000 in
theorem of_any (gt d : Nat) (A : Option Addr) (n c : Nat) (z : List Nat) (w : World) (ht : Blk w gt 80 (tblA d 16 0)) (hd : d ≤ 8) (h : IS w A n c (ints z)) (hz : ∀ i, i < n → gN z i < 16) (hn : n ≤ 1000) :
    Calls Try.prog 34 #[.pointer (some ⟨gt, 0, none⟩), .slice A n c] w (Rets (NewM 22 (ofM d z)) w) := by
  have hmk := make_rows n (by omega)
  have hzl : z.length = n := by rw [← ints_length, h.1]
  have HZ := Lib.hid hzl
  clear hzl
  go_enter Try.func34, Try.ntmps34
  go_wp2
  clear hmk
  go_loopw [13] (fun i wr => ∃ k : Nat, k ≤ n ∧ i = .int .i64 (k : Int) ∧ OfI d z k w wr) (fun i _ => n - (intOf i).toNat)
  case atStart =>
    refine ⟨0, by omega, rfl, _, ⟨Blk.new _ _ _, by rw [ofpart_length, HZ.out]; simp, fun i hi => ?_⟩, (Below.refl _ _).alloc (Nat.le_refl _) _⟩
    rw [ofpart_length] at hi
    refine ⟨none, 0, 0, by rw [HZ.out] at hi; simp [hi], ?_⟩
    rw [ofpart_get _ _ _ _ hi, if_neg (by omega)]
    exact BS.nil
  case round =>
    obtain ⟨k, hk, rfl, cs', h1, hb⟩ := hrel
    by_cases hlt : k < n
    · obtain ⟨gi, oi, rfl, hci⟩ := h.nat hb hlt
      have ht1 := ht.kept hb
      have hz16 := hz k hlt
      have hz16' : (gN z k : Int) < 16 := by omega
      have hd0 : w.cell? ⟨gt, 0, none⟩ = some (.int .i64 (d : Int)) := by rw [ht.cell, tblA_zero]
      have cd := cell_kept hb hd0
      have hgt : gt < wr.heap.size := ht1.lt
      have HD := Lib.hid (tab_row ht1 hd hz16)
      obtain ⟨A0, n0, c0, hc0, _⟩ := h1.cell (i := k) (by rw [ofpart_length, HZ.out]; exact hlt)
      have HB := Lib.hid hb
      have H1 := Lib.hid h1
      have hd8 : (d : Int) ≤ 8 := by omega
      clear hb h1 ht1 hd0
      go_wp2
      refine Text.wp_region_text (fun w' => w'.cell? ⟨gt, 0, none⟩ = some (.int .i64 (d : Int))) [(0, 4), (1, 4), (3, 4), (4, 4), (5, 4), (6, 4), (7, 4), (8, 4), (9, 4), (10, 4), (11, 0), (12, 4), (2, 2), (13, 2), (14, 4), (15, 2)] (by kernel_rfl) (by kernel_rfl) (fun _ _ _ _ _ h => h) (cd) ?_
      iterate 10 (refine Text.purek rfl rfl (fun K hK => ⟨_, fun w' => by go_simp <;> rfl, ?_⟩); go_simp; refine hK _ ?_; clear hK K)
      (refine Text.heldk rfl rfl (fun K hK => ⟨_, fun w' hw' => by go_simp <;> rfl, ?_⟩); go_simp; refine hK _ ?_; clear hK K)
      (refine Text.purek rfl rfl (fun K hK => ⟨_, fun w' => by go_simp <;> rfl, ?_⟩); go_simp; refine hK _ ?_; clear hK K)
      refine Text.eff rfl rfl (fun K hK => ?_)
      go_simp
      obtain ⟨wA, hwA⟩ : ∃ wA, wA = (wr.alloc (.cells #[] 5)).drew := ⟨_, rfl⟩
      have HBA : Hid (Below wr.heap.size wr wA) := by rw [hwA]; exact Lib.hid ((Below.refl _ _).alloc (Nat.le_refl _) _).drew
      have HOA : Hid (wA.ownsRow wr.heap.size 5 1 (.slice (some ⟨wr.heap.size, 0, none⟩) 0 0) 0 (([] : List UInt8).map B)) := by
        rw [hwA]; exact Lib.hid (World.ownsRow_lit wr #[] 0 (Nat.le_refl _) (by simp [maxLen]) rfl)
      rw [← hwA]
      refine hK _ _ (cell_kept HBA.out cd) ?_
      clear hK K hwA
      refine Text.eff rfl rfl (fun K hK => ?_)
      refine wp_appB wA (.tmp 20) (.tmp 30) rfl wr.heap.size (.slice (some ⟨wr.heap.size, 0, none⟩) 0 0) 0 [] rfl HOA.out (some ⟨gt, 1 + gN z k * 8, none⟩) d 8 (crw d (gN z k)) rfl (HD.out.kept HBA.out) (by omega) HBA.out.size ?_
      intro v1 w3 hp1
      have hb3 : Below wr.heap.size wr w3 := HBA.out.grown hp1.2.1 HBA.out.size (by simp [Value.ownBlock])
      obtain ⟨A3, c3, rfl, hbs3⟩ := BS.of_own hp1.1 (by unfold lim; omega)
      rw [Nat.zero_add] at hbs3
      have hc3 := cell_kept hb3 hc0
      have hf3 := (H1.out.1.kept hb3).frozen k
      have cd3 := cell_kept hb3 cd
      have HB3 := Lib.hid hb3
      have HBS3 := Lib.hid hbs3
      clear hp1 hb3 hbs3
      go_simp
      refine hK _ _ cd3 ?_
      clear hK K
      (refine Text.purek rfl rfl (fun K hK => ⟨_, fun w' => by go_simp <;> rfl, ?_⟩); go_simp; refine hK _ ?_; clear hK K)
      refine Text.eff rfl rfl (fun K hK => ?_)
      go_simp
      have HR : Hid (OfI d z (k + 1) w (w3.setCell ⟨w.heap.size, k, none⟩ (.slice A3 d c3))) := by
        have h4 := (H1.out.kept HB3.out).set_ (i := k) (by rw [ofpart_length, HZ.out]; exact hlt) HBS3.out
        rw [List.nil_append, ofpart_set] at h4
        exact Lib.hid ⟨_, h4, (below_thenB HB.out HB.out.size HB3.out).setCell (Nat.le_refl _) _⟩
      have hgtw : gt ≠ w.heap.size := by have := ht.lt; omega
      refine hK _ _ (cell_set_ne cd3 (by simp <;> omega)) ?_
      clear hK K
      refine Text.done ?_
      go_wp2
      go_roundw
      case rel => exact ⟨k + 1, by omega, by go_num, HR.out⟩
      case measure => simp [intOf]; omega
    · obtain rfl : k = n := by omega
      have HR : Hid (NewM 22 (ofM d z) w (.slice (some ⟨w.heap.size, 0, none⟩) k k) wr) := by
        have h2 := h1
        rw [← HZ.out, ofpart_all] at h2
        exact Lib.hid ⟨w.heap.size, cs', k, rfl, by rw [ofM_length, HZ.out], Nat.le_refl _, h2, hb⟩
      clear h1 hb
      go_wp2
      go_ret
      exact ⟨_, rfl, HR.out⟩

/-- What pieces give the blocks: the inverse of their rows. -/
def invT (d : Nat) (z : List Nat) : List (List UInt8) := invM (ofM d (z.take d)) d
/-- The rows of these pieces have an inverse that elimination finds. -/
def Reg (d : Nat) (z : List Nat) : Prop := (elimI (ofM d (z.take d)) d).2 = d
theorem gN_take {z : List Nat} {d k : Nat} (h : k < d) : gN (z.take d) k = gN z k := by
  unfold gN; rw [List.getD_eq_getElem?_getD, List.getD_eq_getElem?_getD, List.getElem?_take, if_pos h]
theorem IS.take {w : World} {A : Option Addr} {n c d : Nat} {z : List Nat} (h : IS w A n c (ints z)) (hd : d ≤ n) : IS w A d c (ints (z.take d)) := by
  have hl : z.length = n := by rw [← ints_length, h.1]
  refine ⟨by rw [ints_length, List.length_take]; omega, by have := h.2.1; omega, by have := h.2.2.1; omega, fun k hk => ?_⟩
  obtain ⟨g, o, e, hc⟩ := h.2.2.2 k (by omega)
  refine ⟨g, o, e, ?_⟩
  rw [hc]
  show some (Value.int .i64 (gI (ints z) k)) = some (Value.int .i64 (gI (ints (z.take d)) k))
  rw [gI_ints (by omega), gI_ints (by rw [List.length_take]; omega), gN_take hk]

theorem NewM.ms {t : TypeId} {m : List (List UInt8)} {w w' : World} {v : Value} (h : NewM t m w v w') (hl : m.length * 24 ≤ lim) : ∃ g n, v = .slice (some ⟨g, 0, none⟩) n n ∧ m.length = n ∧ MS w' (some ⟨g, 0, none⟩) n n m ∧ Below w.heap.size w w' := by
  obtain ⟨g, cs, n, e, hn, _, hr, hb⟩ := h
  exact ⟨g, n, e, hn, hr.toMS hn (Nat.le_refl _) (by rw [← hn]; exact hl), hb⟩
theorem invM_length (m : List (List UInt8)) (n : Nat) : (invM m n).length = n := by simp [invM]

set_option maxHeartbeats 4000000 in
theorem inverse_t (gt d : Nat) (A : Option Addr) (n c : Nat) (z : List Nat) (w : World) (ht : Blk w gt 80 (tblA d 16 0)) (hd : d ≤ 8) (hd0 : 0 < d) (h : IS w A n c (ints z)) (hz : ∀ i, i < n → gN z i < 16) (hn : d ≤ n) (hreg : Reg d z) :
    Calls Try.prog 46 #[.pointer (some ⟨gt, 0, none⟩), .slice A n c] w (Rets (NewM 22 (invT d z)) w) := by
  have hcd : w.cell? ⟨gt, 0, none⟩ = some (.int .i64 (d : Int)) := by rw [ht.cell, tblA_zero]
  have hnc := h.2.1
  have h2 := h.take hn
  have hl := h.len_le
  obtain ⟨g, o, rfl, _⟩ := h.nat (Below.refl _ _) (show 0 < n by omega)
  have q1 : (d : Int) ≤ (c : Int) := by omega
  have HT := Lib.hid ht
  clear ht
  go_enter Try.func46, Try.ntmps46
  go_wp2_with fail
  refine (of_any gt d _ d c (z.take d) w HT.out hd h2 (fun i hi => by rw [gN_take hi]; exact hz i (by omega)) (by omega)).mono ?_
  rintro e w1 ⟨v, rfl, hv⟩
  obtain ⟨g1, n1, rfl, hn1, hms, hb1⟩ := hv.ms (by rw [ofM_length, List.length_take]; have : z.length = n := by rw [← ints_length, h.1]
                                                   unfold lim; omega)
  obtain rfl : n1 = d := by rw [← hn1, ofM_length, List.length_take]; have : z.length = n := by rw [← ints_length, h.1]
                            omega
  clear hv hn1
  go_wp2_with fail
  refine (inverse_any _ n1 n1 _ w1 hms (ofM_rect _ _) hd0 (by omega) hreg).mono ?_
  rintro e w2 ⟨v2, rfl, g2, cs2, n2, rfl, hn2, hg2, hr2, hb2⟩
  have HR : Hid (NewM 22 (invT n1 z) w (.slice (some ⟨g2, 0, none⟩) n2 n2) w2) := Lib.hid ⟨g2, cs2, n2, rfl, hn2, Nat.le_trans hb1.size hg2, hr2, below_then hb1 hb2⟩
  clear hn2 hr2 hb1 hb2
  go_wp2
  go_ret
  exact ⟨_, rfl, HR.out⟩
end Go.Proofs.Ytoeeklkebcgmaaa
/- Contracts of package reedsolomon: factors, Row, oneLength; slices.Clone of rows. -/
namespace Go.Proofs.Ytoeeklkebcgmaaa
open Go.RowKit Gf

attribute [local go_sem] Gf.xor_bits Gf.and_bits Gf.or_bits Gf.ne_zero_iff Gf.eq_zero_iff Gf.eq_one_iff Gf.beq_bytes Gf.bne_bytes Gf.bv_toNat

theorem redS_rect {m : List (List UInt8)} {L np col : Nat} (h : Rect m L) : Rect (redS m np col).1 L ∧ (redS m np col).1.length = m.length := by
  cases hp : pvF m np col with
  | none => rw [redS_none hp]; exact ⟨h, rfl⟩
  | some f =>
    rw [redS_some hp]
    obtain ⟨h1, h2, _⟩ := pvF_spec hp
    exact ⟨clr_rect _ L np col _ (swp_rect m L np f h (by omega) h2) (by rw [swp_length]; omega), by rw [clr_length, swp_length]⟩
theorem red_rect {m : List (List UInt8)} {L : Nat} (h : Rect m L) : ∀ k, Rect (red m k).1 L ∧ (red m k).1.length = m.length
  | 0 => ⟨h, rfl⟩
  | k + 1 => by
    have ih := red_rect h k
    have := redS_rect (np := (red m k).2) (col := k) ih.1
    exact ⟨this.1, this.2.trans ih.2⟩
theorem invM_rect {m : List (List UInt8)} {n : Nat} (h : Rect m n) (hl : m.length = n) : Rect (invM m n) n := by
  intro i hi
  rw [invM_length] at hi
  rw [gR_eq (by rw [invM_length]; exact hi)]
  have hj : Rect (jmat m (idm n) n) (n + n) := fun k hk => by
    rw [jmat_length] at hk
    rw [jmat_get _ _ _ _ hk]
    exact jrow_length m (idm n) n k h (idm_rect n) (by rw [hl]; exact hk) (by rw [idm_length]; exact hk)
  have hr := red_rect hj n
  have := hr.1 i (by rw [hr.2, jmat_length]; exact hi)
  simp only [invM, List.getElem_map, List.getElem_range, invrow, elimI, List.length_drop, this]
  omega
theorem invT_rect {d : Nat} {z : List Nat} (h : d ≤ z.length) : Rect (invT d z) d := invM_rect (ofM_rect d _) (by rw [ofM_length, List.length_take]; omega)
theorem invT_length (d : Nat) (z : List Nat) : (invT d z).length = d := invM_length _ _

/-- The factors with which the first d of the pieces z give the pieces y. -/
def facM (d : Nat) (z y : List Nat) : List (List UInt8) := cmat (ofM d y) (invT d z) d y.length 0
theorem facM_length (d : Nat) (z y : List Nat) : (facM d z y).length = y.length := by rw [facM, cmat_length, ofM_length]

set_option maxHeartbeats 4000000 in
theorem factors_any (gt d : Nat) (A A' : Option Addr) (n n' c c' : Nat) (z y : List Nat) (w : World) (ht : Blk w gt 80 (tblA d 16 0)) (hd : d ≤ 8) (hd0 : 0 < d) (h : IS w A n c (ints z)) (hz : ∀ i, i < n → gN z i < 16) (hn : d ≤ n)
    (h' : IS w A' n' c' (ints y)) (hy : ∀ i, i < n' → gN y i < 16) (hn' : 0 < n') (hn64 : n' ≤ 64) (hreg : Reg d z) :
    Calls Try.prog 41 #[.pointer (some ⟨gt, 0, none⟩), .slice A n c, .slice A' n' c'] w (Rets (NewM 22 (facM d z y)) w) := by
  have hq : ((n' : Int) == 0) = false := by simp; omega
  have hyl : y.length = n' := by rw [← ints_length, h'.1]
  have hzl : z.length = n := by rw [← ints_length, h.1]
  have HY := Lib.hid hyl
  have HZL := Lib.hid hzl
  clear hyl hzl
  go_enter Try.func41, Try.ntmps41
  go_wp2_with fail
  refine (of_any gt d A' n' c' y w ht hd h' hy (by omega)).mono ?_
  rintro e w1 ⟨v, rfl, hv⟩
  obtain ⟨g1, n1, rfl, hn1, hms, hb1⟩ := hv.ms (by rw [ofM_length, HY.out]; unfold lim; omega)
  obtain rfl : n1 = n' := by rw [← hn1, ofM_length, HY.out]
  clear hv hn1
  go_wp2_with fail
  refine (inverse_t gt d A n c z w1 (ht.kept hb1) hd hd0 (h.kept hb1) hz hn hreg).mono ?_
  rintro e w2 ⟨v2, rfl, hv2⟩
  obtain ⟨g2, n2, rfl, hn2, hms2, hb2⟩ := hv2.ms (by rw [invT_length]; unfold lim; omega)
  obtain rfl : n2 = d := by rw [← hn2, invT_length]
  clear hv2 hn2
  go_wp2_with fail
  refine (mmul_any _ _ n1 n2 n1 n2 (ofM n2 y) (invT n2 z) n2 w2 (hms.kept hb2) hms2 (ofM_rect _ _) (invT_rect (by rw [HZL.out]; exact hn)) (by omega) hn' hn64 hd0 (by omega)).mono ?_
  rintro e w3 ⟨v3, rfl, g3, cs3, n3, rfl, hn3, hg3, hr3, hb3⟩
  have HR : Hid (NewM 22 (facM n2 z y) w (.slice (some ⟨g3, 0, none⟩) n3 n3) w3) := by
    unfold facM
    rw [HY.out]
    exact Lib.hid ⟨g3, cs3, n3, rfl, hn3, Nat.le_trans hb1.size (Nat.le_trans hb2.size hg3), hr3, below_then (below_then hb1 hb2) hb3⟩
  clear hn3 hr3 hb1 hb2 hb3 hms hms2
  go_wp2
  go_ret
  exact ⟨_, rfl, HR.out⟩

set_option maxHeartbeats 4000000 in
theorem factors_none (gt : Nat) (A A' : Option Addr) (n c c' : Nat) (w : World) :
    Calls Try.prog 41 #[.pointer (some ⟨gt, 0, none⟩), .slice A n c, .slice A' 0 c'] w fun e w' => e = .returned (.slice none 0 0) ∧ w = w' := by
  go_enter Try.func41, Try.ntmps41
  go_wp2_with fail
  go_ret
  exact ⟨rfl, rfl⟩

/-- v is a slice that reads as l, wherever it lies; nothing old has turned. -/
def GivesB (l : List UInt8) (w : World) (v : Value) (w' : World) : Prop := ∃ A n c, v = .slice A n c ∧ BS w' A n c l ∧ Below w.heap.size w w'

set_option maxHeartbeats 4000000 in
theorem row_ok (d t i : Nat) (w : World) (hd : 1 ≤ d) (hd8 : d ≤ 8) (hdt : d ≤ t) (ht : t ≤ 16) (hi : i < t) :
    Calls Try.prog 10 #[.int .i64 (d : Int), .int .i64 (t : Int), .int .i64 (i : Int)] w (Rets0 (GivesB (crw d i)) w) := by
  have hv : vldB d t = true := vld_iff.2 (by omega)
  have q1 : decide ((i : Int) < 0) = false := by simp
  have q2 : decide ((t : Int) ≤ (i : Int)) = false := by simp; omega
  go_enter Try.func10, Try.ntmps10
  go_wp2_with fail
  refine (rsvalid_any _ _ _).mono ?_
  rintro e w' ⟨rfl, rfl⟩
  rw [hv]
  go_wp2_with fail
  refine (newTable_any d _ hd8).mono ?_
  rintro e w1 ⟨rfl, htab, hb1⟩
  go_wp2_with fail
  have hbA : Below w1.heap.size w1 (w1.alloc (.cells #[.int .i64 (i : Int)] 3)) := (Below.refl _ _).alloc (Nat.le_refl _) _
  have hIS : IS (w1.alloc (.cells #[.int .i64 (i : Int)] 3)) (some ⟨w1.heap.size, 0, none⟩) 1 1 (ints [i]) := ⟨rfl, Nat.le_refl _, by unfold lim; omega, fun k hk => by
    obtain rfl : k = 0 := by omega
    exact ⟨w1.heap.size, 0, rfl, by rw [(Blk.new w1 _ _).cell]; rfl⟩⟩
  have hz1 : ∀ k, k < 1 → gN [i] k < 16 := fun k hk => by
    obtain rfl : k = 0 := by omega
    show i < 16
    omega
  refine (of_any w.heap.size d _ 1 1 [i] _ (htab.kept hbA) hd8 hIS hz1 (by omega)).mono ?_
  rintro e w2 ⟨v, rfl, g, cs, n, rfl, hn, hg, hr, hb2⟩
  obtain rfl : n = 1 := by rw [← hn]; rfl
  obtain ⟨A, k, c, hc, hbs⟩ := hr.cell (i := 0) (by rw [ofM_length]; simp)
  have HR : Hid (GivesB (crw d i) w (.slice A k c) w2) := Lib.hid ⟨A, k, c, rfl, hbs, below_then (below_then hb1 hbA) hb2⟩
  clear hr hbs hIS htab hbA hb2 hb1 hn hg
  go_wp2_with fail
  go_ret2
  exact ⟨_, rfl, HR.out⟩

set_option maxHeartbeats 4000000 in
theorem row_bad (d t i : Int) (w : World) (h : ¬ (vldB d t = true ∧ 0 ≤ i ∧ i < t)) :
    Calls Try.prog 10 #[.int .i64 d, .int .i64 t, .int .i64 i] w fun e w' => e = .returned (.tuple #[.slice none 0 0, .int .i64 1]) ∧ w = w' := by
  cases hv : vldB d t with
  | false =>
    go_enter Try.func10, Try.ntmps10
    go_wp2_with (go_at_call 11; refine (rsvalid_any _ _ _).mono ?_; rintro e w' ⟨rfl, rfl⟩; rw [hv])
    go_ret2
    exact ⟨rfl, rfl⟩
  | true =>
    by_cases h1 : i < 0
    · have q1 : decide (i < 0) = true := by simpa using h1
      go_enter Try.func10, Try.ntmps10
      go_wp2_with (go_at_call 11; refine (rsvalid_any _ _ _).mono ?_; rintro e w' ⟨rfl, rfl⟩; rw [hv])
      go_ret2
      exact ⟨rfl, rfl⟩
    · have q1 : decide (i < 0) = false := by simpa using h1
      have q2 : decide (t ≤ i) = true := by simp; rw [hv] at h; simp at h; omega
      go_enter Try.func10, Try.ntmps10
      go_wp2_with (go_at_call 11; refine (rsvalid_any _ _ _).mono ?_; rintro e w' ⟨rfl, rfl⟩; rw [hv])
      go_ret2
      exact ⟨rfl, rfl⟩
end Go.Proofs.Ytoeeklkebcgmaaa
/- Contracts of package reedsolomon: oneLength, Encode; slices.Clone of rows. -/
namespace Go.Proofs.Ytoeeklkebcgmaaa
open Go.RowKit Gf

attribute [local go_sem] Gf.xor_bits Gf.and_bits Gf.or_bits Gf.ne_zero_iff Gf.eq_zero_iff Gf.eq_one_iff Gf.beq_bytes Gf.bne_bytes Gf.bv_toNat

/-- All rows have one length from 1 to 65536. -/
def okRow (m : List (List UInt8)) (i : Nat) : Bool := decide ((gR m i).length ≠ 0 ∧ (gR m i).length ≤ 65536 ∧ (gR m i).length = (gR m 0).length)
def oneB (m : List (List UInt8)) : Bool := (List.range m.length).all (okRow m)
theorem oneB_true {m : List (List UInt8)} (h : ∀ i, i < m.length → okRow m i = true) : oneB m = true := by
  unfold oneB; rw [List.all_eq_true]; intro i hi; exact h i (List.mem_range.1 hi)
theorem oneB_false {m : List (List UInt8)} {i : Nat} (hi : i < m.length) (h : okRow m i = false) : oneB m = false := by
  unfold oneB; rw [List.all_eq_false]; exact ⟨i, List.mem_range.2 hi, by simp [h]⟩
theorem oneB_spec {m : List (List UInt8)} (h : oneB m = true) (i : Nat) (hi : i < m.length) : (gR m i).length ≠ 0 ∧ (gR m i).length ≤ 65536 ∧ (gR m i).length = (gR m 0).length := by
  unfold oneB at h; rw [List.all_eq_true] at h; have := h i (List.mem_range.2 hi); simpa [okRow] using this

set_option maxHeartbeats 1000000 in
theorem oneLength_any (A : Option Addr) (n c : Nat) (m : List (List UInt8)) (w : World) (h : MS w A n c m) :
    Calls Try.prog 36 #[.slice A n c] w fun e w' => e = .returned (.bool (oneB m)) ∧ w = w' := by
  have hn := h.len_le
  have HL := Lib.hid h.1
  go_enter Try.func36, Try.ntmps36
  go_wp2
  go_loop [7] (fun i => ∃ k : Nat, k ≤ n ∧ i = .int .i64 (k : Int) ∧ Hid (∀ j, j < k → okRow m j = true)) (fun i => n - (intOf i).toNat)
  case atStart => exact ⟨0, by omega, rfl, Lib.hid (fun j hj => absurd hj (by omega))⟩
  case round =>
    obtain ⟨k, hk, rfl, hall⟩ := hrel
    by_cases hlt : k < n
    · obtain ⟨g, o, A1, n1, c1, rfl, hc, hr1⟩ := h.at_ (Below.refl _ _) hlt
      obtain ⟨g', o', A2, n2, c2, e2, hc2, hr2⟩ := h.at_ (Below.refl _ _) (show 0 < n by omega)
      injection e2 with e2
      injection e2 with e3 e4
      subst e3 e4
      rw [Nat.add_zero] at hc2
      have HN1 := Lib.hid hr1.1
      have HN2 := Lib.hid hr2.1
      have hln := hr1.len_le
      have hln2 := hr2.len_le
      clear hr1 hr2 h
      by_cases e1 : n1 = 0
      · have q1 : ((n1 : Int) == 0) = true := by simp [e1]
        have HF : Hid (oneB m = false) := Lib.hid (oneB_false (by rw [HL.out]; exact hlt) (by unfold okRow; rw [HN1.out, HN2.out]; simp [e1]))
        have E1 := Lib.hid e1
        clear e1
        go_wp2
        go_ret
        exact ⟨ret_bool (by rw [HF.out]), rfl⟩
      · have q1 : ((n1 : Int) == 0) = false := by simp; omega
        by_cases e2 : 65536 < n1
        · have q2 : decide ((65536 : Int) < (n1 : Int)) = true := by simp; omega
          have HF : Hid (oneB m = false) := Lib.hid (oneB_false (by rw [HL.out]; exact hlt) (by unfold okRow; rw [HN1.out, HN2.out]; simp; omega))
          go_wp2
          go_ret
          exact ⟨ret_bool (by rw [HF.out]), rfl⟩
        · have q2 : decide ((65536 : Int) < (n1 : Int)) = false := by simp; omega
          by_cases e3 : n1 = n2
          · have q3 : ((n1 : Int) != (n2 : Int)) = false := by simp [e3]
            have HA : Hid (∀ j, j < k + 1 → okRow m j = true) := Lib.hid (fun j hj => by
              by_cases e : j = k
              · subst e; unfold okRow; rw [HN1.out, HN2.out]; simp; omega
              · exact hall.out j (by omega))
            have E3 := Lib.hid e3
            clear e3 hall
            go_wp2
            go_round
            case rel => exact ⟨k + 1, by omega, by go_num, HA⟩
            case measure => simp [intOf]; omega
          · have q3 : ((n1 : Int) != (n2 : Int)) = true := by simp; omega
            have HF : Hid (oneB m = false) := Lib.hid (oneB_false (by rw [HL.out]; exact hlt) (by unfold okRow; rw [HN1.out, HN2.out]; simp; omega))
            go_wp2
            go_ret
            exact ⟨ret_bool (by rw [HF.out]), rfl⟩
    · have HT : Hid (oneB m = true) := Lib.hid (oneB_true (fun i hi => hall.out i (by rw [HL.out] at hi; omega)))
      clear h
      go_wp2
      go_ret
      exact ⟨ret_bool (by rw [HT.out]), rfl⟩

/-- A row of slices that the call owns: the slices ps read as the rows of m, none empty, and none lies in the row's own block. -/
def OwnM (w : World) (base : Nat) (v : Value) (n : Nat) (m : List (List UInt8)) : Prop :=
  m.length = n ∧ ∃ ps, w.ownsRow base 22 1 v n ps ∧ ∀ j, j < n → ∃ A k c, ps[j]? = some (.slice A k c) ∧ BS w A k c (gR m j) ∧ 0 < k ∧ ∀ g o, A = some ⟨g, o, none⟩ → v.ownBlock ≠ some g
theorem OwnM.ms {w : World} {base : Nat} {v : Value} {n : Nat} {m : List (List UInt8)} (h : OwnM w base v n m) (hn : n * 24 ≤ lim) : ∃ A c, v = .slice A n c ∧ MS w A n c m := by
  obtain ⟨hm, ps, hown, hps⟩ := h
  rcases hown.2 with ⟨rfl, rfl⟩ | ⟨g, cap, cur, rfl, _, hh, hnc, _, hsz, htk⟩
  · exact ⟨none, 0, rfl, hm, Nat.le_refl _, hn, fun k hk => absurd hk (by omega)⟩
  · refine ⟨some ⟨g, 0, none⟩, cap, rfl, hm, hnc, hn, fun k hk => ?_⟩
    obtain ⟨A, k', c, h1, h2, _⟩ := hps k hk
    exact ⟨g, 0, A, k', c, rfl, by rw [Nat.zero_add, hown.cellAt k (by omega)]; exact h1, h2⟩
theorem OwnM.kept {w w' : World} {base : Nat} {v : Value} {n : Nat} {m : List (List UInt8)} (h : OwnM w base v n m) (hb : Below w.heap.size w w') : OwnM w' base v n m := by
  obtain ⟨hm, ps, hown, hps⟩ := h
  refine ⟨hm, ps, Kp.own (S := fun _ => False) (Kp.of_below hb) hown (fun _ _ => id), fun j hj => ?_⟩
  obtain ⟨A, k, c, h1, h2, h3⟩ := hps j hj
  exact ⟨A, k, c, h1, h2.kept hb, h3⟩
theorem gR_append_left {m m' : List (List UInt8)} {j : Nat} (h : j < m.length) : gR (m ++ m') j = gR m j := by
  unfold gR; rw [List.getD_eq_getElem?_getD, List.getD_eq_getElem?_getD, List.getElem?_append_left h]
theorem gR_append_self {m : List (List UInt8)} {l : List UInt8} : gR (m ++ [l]) m.length = l := by
  unfold gR; rw [List.getD_eq_getElem?_getD, List.getElem?_append_right (Nat.le_refl _), Nat.sub_self]; rfl
/-- One row more: what an append of the slice '.slice A k c' leaves. -/
theorem OwnM.push {w w' : World} {base : Nat} {v v' : Value} {n : Nat} {m : List (List UInt8)} (_hbase : base ≤ w.heap.size) (hm : m.length = n) {ps : List Value}
    (hps : ∀ j, j < n → ∃ A k c, ps[j]? = some (.slice A k c) ∧ BS w A k c (gR m j) ∧ 0 < k ∧ ∀ g o, A = some ⟨g, o, none⟩ → v.ownBlock ≠ some g) (hpl : ps.length = n)
    {A : Option Addr} {k c : Nat} {l : List UInt8} (hl : BS w A k c l) (hk : 0 < k) (hA : ∀ g o, A = some ⟨g, o, none⟩ → v.ownBlock ≠ some g)
    (hp : AppPost base 22 v n 1 (ps ++ [.slice A k c]) v' w w') : OwnM w' base v' (n + 1) (m ++ [l]) := by
  have hK : Kp (fun b => v.ownBlock = some b) w w' := (Kp.refl _ _).grown hp.2.1 (fun _ e => .inl e)
  have hrow : ∀ (A : Option Addr) (k c : Nat) (l : List UInt8), BS w A k c l → 0 < k → (∀ g o, A = some ⟨g, o, none⟩ → v.ownBlock ≠ some g) → BS w' A k c l ∧ ∀ g o, A = some ⟨g, o, none⟩ → v'.ownBlock ≠ some g := by
    intro A k c l hb h0 hA
    refine ⟨⟨hb.1, hb.2.1, hb.2.2.1, fun i hi => ?_⟩, fun g o e e' => ?_⟩
    · obtain ⟨g, o, e, hc⟩ := hb.2.2.2 i hi
      exact ⟨g, o, e, hK.cell hc (hA g o e)⟩
    · rcases hp.2.2 with h1 | h1
      · exact hA g o e (h1.symm.trans e')
      · obtain ⟨g', o', e2, hc⟩ := hb.2.2.2 0 h0
        rw [e] at e2
        injection e2 with e2
        injection e2 with e2
        have := cell_lt hc
        rw [h1] at e'
        injection e' with e'
        simp only at this
        omega
  refine ⟨by simp [hm], ps ++ [.slice A k c], hp.1, fun j hj => ?_⟩
  by_cases hjn : j < n
  · obtain ⟨A1, k1, c1, h1, h2, h3, h4⟩ := hps j hjn
    obtain ⟨r1, r2⟩ := hrow A1 k1 c1 _ h2 h3 h4
    refine ⟨A1, k1, c1, by rw [List.getElem?_append_left (by omega)]; exact h1, ?_, h3, r2⟩
    rw [gR_append_left (by omega)]; exact r1
  · obtain rfl : j = n := by omega
    obtain ⟨r1, r2⟩ := hrow A k c l hl hk hA
    refine ⟨A, k, c, by rw [List.getElem?_append_right (by omega), hpl, Nat.sub_self]; rfl, ?_, hk, r2⟩
    rw [← hm, gR_append_self]; exact r1

/-- The slices of a slice of byte slices, as a list. -/
theorem MS.list {w : World} {A : Option Addr} {n c : Nat} {m : List (List UInt8)} (h : MS w A n c m) : ∃ ps : List Value, ps.length = n ∧ Cells w A n (fun k => ps.getD k undef) ∧ ∀ j, j < n → ∃ A' n' c', ps[j]? = some (.slice A' n' c') ∧ BS w A' n' c' (gR m j) := by
  have key : ∀ k, k ≤ n → ∃ ps : List Value, ps.length = k ∧ ∀ j, j < k → ∃ g o A' n' c', A = some ⟨g, o, none⟩ ∧ ps[j]? = some (.slice A' n' c') ∧ w.cell? ⟨g, o + j, none⟩ = some (.slice A' n' c') ∧ BS w A' n' c' (gR m j) := by
    intro k
    induction k with
    | zero => intro _; exact ⟨[], rfl, fun j hj => absurd hj (by omega)⟩
    | succ k ih =>
      intro hk
      obtain ⟨ps, h1, h2⟩ := ih (by omega)
      obtain ⟨g, o, A', n', c', e, hc, hb⟩ := h.2.2.2 k (by omega)
      refine ⟨ps ++ [.slice A' n' c'], by simp [h1], fun j hj => ?_⟩
      by_cases hjk : j < k
      · obtain ⟨g1, o1, A1, n1, c1, e1, p1, q1, b1⟩ := h2 j hjk
        exact ⟨g1, o1, A1, n1, c1, e1, by rw [List.getElem?_append_left (by omega)]; exact p1, q1, b1⟩
      · obtain rfl : j = k := by omega
        exact ⟨g, o, A', n', c', e, by rw [List.getElem?_append_right (by omega), h1, Nat.sub_self]; rfl, hc, hb⟩
  obtain ⟨ps, h1, h2⟩ := key n (Nat.le_refl _)
  refine ⟨ps, h1, fun k hk => ?_, fun j hj => ?_⟩
  · obtain ⟨g, o, A', n', c', e, p, q, _⟩ := h2 k hk
    exact ⟨g, o, e, by rw [q]; simp [List.getD, p]⟩
  · obtain ⟨g, o, A', n', c', e, p, q, b⟩ := h2 j hj
    exact ⟨A', n', c', p, b⟩

def CloneRet (n : Nat) (m : List (List UInt8)) (w : World) (e : Ending) (w' : World) : Prop := ∃ v, e = .returned v ∧ OwnM w' w.heap.size v n m ∧ Below w.heap.size w w'

set_option maxHeartbeats 1000000 in
theorem clone_rows (A : Option Addr) (n c : Nat) (m : List (List UInt8)) (w : World) (h : MS w A n c m) (hn : 0 < n) (hne : ∀ j, j < n → (gR m j).length ≠ 0) :
    Calls Try.prog 37 #[.slice A n c] w (CloneRet n m w) := by
  have hl := h.len_le
  obtain ⟨g, o, _, _, _, rfl, _⟩ := h.at_ (Below.refl _ _) hn
  obtain ⟨ps, p1, p2, p3⟩ := h.list
  have heq := fun (W : World) (a : Option Addr) (n c n' c' : Nat) => Lib.run_eql_slice_nil (P := Try.prog) W 30 22 a n c n' c' Try.underlying30
  have HO0 : Hid ((w.alloc (.cells #[] 22)).ownsRow w.heap.size 22 1 (.slice (some ⟨w.heap.size, 0, none⟩) 0 0) 0 []) :=
    Lib.hid (World.ownsRow_lit w #[] 0 (Nat.le_refl _) (by simp [maxLen]) rfl)
  have hbA : Below w.heap.size w (w.alloc (.cells #[] 22)) := (Below.refl _ _).alloc (Nat.le_refl _) _
  have HC := Lib.hid (p2.kept hbA)
  have H1 : Hid (∀ u ∈ ps, u.oneCell' = true) := Lib.hid (fun u hu => by
    obtain ⟨j, hj⟩ := List.getElem?_of_mem hu
    have hjn : j < n := by rw [← p1]; exact (List.getElem?_eq_some_iff.1 hj).1
    obtain ⟨A', n', c', q, _⟩ := p3 j hjn
    rw [q] at hj
    injection hj with hj
    subst hj
    rfl)
  have P1 := Lib.hid p1
  have P3 := Lib.hid p3
  have HBA := Lib.hid hbA
  clear p1 p2 p3 hbA
  go_enter Try.func37, Try.ntmps37
  go_wp2_with (first
    | (at_builtin; refine wpList_app _ rfl (.tmp 5) (.tmp 6) 30 rfl w.heap.size 22 (.slice none 0 0) 24 Try.underlying30 infoBytes rfl (.slice (some ⟨w.heap.size, 0, none⟩) 0 0) 0 [] rfl HO0.out (some ⟨g, o, none⟩) n c ps rfl P1.out HC.out H1.out (by omega) (by omega) (by simp) ?_; intro v1 w1 hp1))
  have HR : Hid (OwnM w1 w.heap.size v1 n m ∧ Below w.heap.size w w1) := by
    have hb1 : Below w.heap.size w w1 := HBA.out.grown hp1.2.1 HBA.out.size (by simp [Value.ownBlock])
    have ho := hp1.1
    rw [Nat.zero_add, List.nil_append] at ho
    refine Lib.hid ⟨⟨h.1, ps, ho, fun j hj => ?_⟩, hb1⟩
    obtain ⟨A', n', c', q, hb⟩ := P3.out j hj
    have hn' : 0 < n' := by rw [← hb.1]; have := hne j hj; omega
    refine ⟨A', n', c', q, hb.kept hb1, hn', fun g' o' e e' => ?_⟩
    obtain ⟨g2, o2, e2, hc⟩ := hb.2.2.2 0 hn'
    rw [e] at e2
    injection e2 with e2
    injection e2 with e2
    have h1 := cell_lt hc
    have h2 := ho.lt g' e'
    simp only at h1
    omega
  clear hp1
  go_ret
  exact ⟨_, rfl, HR.out⟩
end Go.Proofs.Ytoeeklkebcgmaaa
/- Contracts of package reedsolomon: Encode. -/
namespace Go.Proofs.Ytoeeklkebcgmaaa
open Go.RowKit Gf

attribute [local go_sem] Gf.xor_bits Gf.and_bits Gf.or_bits Gf.ne_zero_iff Gf.eq_zero_iff Gf.eq_one_iff Gf.beq_bytes Gf.bne_bytes Gf.bv_toNat

theorem Blk.new1 (w : World) (o : Obj) (t : TypeId) (cs : Array Value) : Blk ((w.alloc o).alloc (.cells cs t)) (w.heap.size + 1) t cs := by
  have h := Blk.new (w.alloc o) t cs
  rw [World.size_alloc] at h
  exact h
def lenOf : Value → Nat | .slice _ n _ => n | _ => 0

/-- Blocks, filled up with zeros to k of them. -/
def fillB (blocks : List (List UInt8)) (L k : Nat) : List (List UInt8) := blocks ++ List.replicate (k - blocks.length) (zeros L)
theorem fillB_start (blocks : List (List UInt8)) (L : Nat) : fillB blocks L blocks.length = blocks := by simp [fillB]
theorem fillB_length (blocks : List (List UInt8)) (L k : Nat) (h : blocks.length ≤ k) : (fillB blocks L k).length = k := by simp [fillB]; omega
theorem fillB_succ (blocks : List (List UInt8)) (L k : Nat) (h : blocks.length ≤ k) : fillB blocks L (k + 1) = fillB blocks L k ++ [zeros L] := by
  have e : k + 1 - blocks.length = (k - blocks.length) + 1 := by omega
  unfold fillB; rw [e, List.replicate_succ', List.append_assoc]
theorem fillB_rect (blocks : List (List UInt8)) (L k : Nat) (hr : Rect blocks L) (h : blocks.length ≤ k) : Rect (fillB blocks L k) L := by
  intro i hi
  rw [fillB_length _ _ _ h] at hi
  by_cases hb : i < blocks.length
  · rw [show gR (fillB blocks L k) i = gR blocks i from gR_append_left hb]; exact hr i hb
  · have hl : i < (fillB blocks L k).length := by rw [fillB_length _ _ _ h]; exact hi
    rw [gR_eq hl]
    simp only [fillB]
    rw [List.getElem_append_right (by omega), List.getElem_replicate, zeros_length]

/-- All pieces of blocks. -/
def encM (d t : Nat) (blocks : List (List UInt8)) (L : Nat) : List (List UInt8) := cmat (ofM d (List.range t)) (fillB blocks L d) L t 0

theorem ints_snoc (k : Nat) : ints (List.range (k + 1)) = ints (List.range k) ++ [(k : Int)] := by simp [ints, List.range_succ]
theorem IS.of_own {w : World} {base : Nat} {v : Value} {n : Nat} {z : List Int} (h : w.ownsRow base 3 1 v n (z.map (Value.int .i64))) (hn : n * 8 ≤ lim) : ∃ A c, v = .slice A n c ∧ IS w A n c z := by
  have hl : z.length = n := by have := h.1; simpa using this
  rcases h.2 with ⟨rfl, rfl⟩ | ⟨g, cap, cur, rfl, _, hh, hnc, _, hsz, htk⟩
  · exact ⟨none, 0, rfl, hl, Nat.le_refl _, hn, fun k hk => absurd hk (by omega)⟩
  · refine ⟨some ⟨g, 0, none⟩, cap, rfl, hl, hnc, hn, fun k hk => ⟨g, 0, rfl, ?_⟩⟩
    have hkl : k < z.length := by omega
    show _ = some (Value.int .i64 (gI z k))
    rw [Nat.zero_add, h.cellAt k (by omega), gI_eq hkl]
    simp [List.getElem?_eq_getElem hkl]

def EncI (blocks : List (List UInt8)) (L k : Nat) (v : Value) (w wr : World) : Prop := OwnM wr w.heap.size v k (fillB blocks L k) ∧ Below w.heap.size w wr ∧ (∃ A c, v = .slice A k c)

set_option maxHeartbeats 4000000 in
theorem encode_ok (d t n c : Nat) (A : Option Addr) (blocks : List (List UInt8)) (L : Nat) (w : World) (hd : 1 ≤ d) (hd8 : d ≤ 8) (hdt : d ≤ t) (ht : t ≤ 16) (h : MS w A n c blocks) (hn : 0 < n) (hnd : n ≤ d) (hone : oneB blocks = true) (hL : (gR blocks 0).length = L) :
    Calls Try.prog 16 #[.int .i64 (d : Int), .int .i64 (t : Int), .slice A n c] w (Rets0 (NewM 22 (encM d t blocks L)) w) := by
  have hv : vldB d t = true := vld_iff.2 (by omega)
  have q1 : ((n : Int) == 0) = false := by simp; omega
  have q2 : decide ((d : Int) < (n : Int)) = false := by simp; omega
  have HL1 := Lib.hid h.1
  have hrect : Rect blocks L := fun i hi => by rw [(oneB_spec hone i hi).2.2, hL]
  have hLpos : 0 < L := by
    have := (oneB_spec hone 0 (by rw [h.1]; exact hn)).1
    omega
  have hL6 : L ≤ 65536 := by
    have := (oneB_spec hone 0 (by rw [h.1]; exact hn)).2.1
    omega
  have hmk := make_bytes L (by omega)
  have HV := Lib.hid hv
  have HONE := Lib.hid hone
  have HLL := Lib.hid hL
  clear hv hone hL
  go_enter Try.func16, Try.ntmps16
  go_wp2_with fail
  refine (rsvalid_any _ _ _).mono ?_
  rintro e w' ⟨rfl, rfl⟩
  rw [HV.out]
  go_wp2_with fail
  refine (oneLength_any A n c blocks _ h).mono ?_
  rintro e w' ⟨rfl, rfl⟩
  rw [HONE.out]
  go_wp2_with fail
  refine (clone_rows A n c blocks w h hn (fun j hj => (oneB_spec HONE.out j (by rw [HL1.out]; exact hj)).1)).mono ?_
  rintro e w1 ⟨v1, rfl, ho1, hb1⟩
  obtain ⟨A1, c1, rfl, _⟩ := ho1.ms (by unfold lim; omega)
  have HI : Hid (EncI blocks L n (.slice A1 n c1) w w1) := Lib.hid ⟨by rw [← HL1.out, fillB_start]; rw [← HL1.out] at ho1; exact ho1, hb1, A1, c1, rfl⟩
  clear ho1 hb1
  go_wp2_with fail
  go_loopw [8] (fun v wr => ∃ k : Nat, n ≤ k ∧ k ≤ d ∧ EncI blocks L k v w wr) (fun v _ => d - lenOf v)
  case atStart => exact ⟨n, Nat.le_refl _, hnd, HI.out⟩
  case round =>
    obtain ⟨k, hk1, hk, ho, hb, Av, cv, rfl⟩ := hrel
    by_cases hlt : k < d
    · obtain ⟨g, o, A2, n2, c2, rfl, hca0, hra⟩ := h.at_ (Below.refl _ _) hn
      obtain rfl : n2 = L := by rw [← hra.1, HLL.out]
      rw [Nat.add_zero] at hca0
      have hca := cell_kept hb hca0
      obtain ⟨hm, ps, hown, hps⟩ := ho
      have hbM : Below wr.heap.size wr (wr.alloc (.cells (row (zeros n2)) 5)) := (Below.refl _ _).alloc (Nat.le_refl _) _
      have hbM2 : Below wr.heap.size wr ((wr.alloc (.cells (row (zeros n2)) 5)).alloc (.cells #[.slice (some ⟨wr.heap.size, 0, none⟩) n2 n2] 22)) := hbM.alloc (by simp) _
      have HOW := Lib.hid (Kp.own (S := fun _ => False) (Kp.of_below hbM2) hown (fun _ _ => id))
      have HBM2 := Lib.hid hbM2
      have HB := Lib.hid hb
      have HM := Lib.hid hm
      have HPS := Lib.hid hps
      have HOWN := Lib.hid hown
      clear hb hm hps hown hra hca0 hbM hbM2 HI
      go_wp2_with (first
        | (at_builtin; refine wpList_app1 _ rfl (.tmp 37) (.tmp 43) 30 22 (.slice none 0 0) 24 Try.underlying30 infoBytes rfl rfl w.heap.size (.slice Av k cv) k ps rfl HOW.out (wr.heap.size + 1) 1 22 (.slice (some ⟨wr.heap.size, 0, none⟩) n2 n2) rfl (Blk.new1 wr (.cells (row (zeros n2)) 5) _ _) rfl (by omega) (by omega) (Nat.le_trans HB.out.size HBM2.out.size) ?_; intro v4 w4 hp4))
      have HR : Hid (EncI blocks n2 (k + 1) v4 w w4) := by
        have hpl : ps.length = k := by have := HOWN.out.1; simpa using this
        have hz : BS ((wr.alloc (.cells (row (zeros n2)) 5)).alloc (.cells #[.slice (some ⟨wr.heap.size, 0, none⟩) n2 n2] 22)) (some ⟨wr.heap.size, 0, none⟩) n2 n2 (zeros n2) :=
          BS.of_blk ((Blk.new wr _ _).alloc _) (zeros_length n2) (by unfold lim; omega)
        have h5 := OwnM.push (Nat.le_trans HB.out.size HBM2.out.size) HM.out (fun j hj => by
          obtain ⟨A', k', c', p1, p2, p3, p4⟩ := HPS.out j hj
          exact ⟨A', k', c', p1, p2.kept HBM2.out, p3, p4⟩) hpl hz hLpos (fun g' o' e e' => by
            injection e with e
            injection e with e
            have := HOWN.out.lt g' e'
            omega) hp4
        rw [← fillB_succ _ _ _ (by rw [HL1.out]; exact hk1)] at h5
        obtain ⟨A5, c5, e5, _⟩ := h5.ms (by unfold lim; omega)
        exact Lib.hid ⟨h5, (below_thenB HB.out HB.out.size HBM2.out).grown hp4.2.1 (Nat.le_trans HB.out.size HBM2.out.size) (fun b hb' => own_base HOWN.out b hb'), A5, c5, e5⟩
      clear hp4
      go_roundw
      case rel => exact ⟨k + 1, by omega, by omega, HR.out⟩
      case measure =>
        obtain ⟨_, _, A5, c5, rfl⟩ := HR.out
        simp [lenOf]; omega
    · obtain rfl : k = d := by omega
      have HO := Lib.hid ho
      have HB := Lib.hid hb
      clear ho hb HI hmk
      have hbt : (t : Int) ≤ 16 := by omega
      go_wp2_with fail
      obtain ⟨wo, rfl⟩ : ∃ wo : World, wo = wr := ⟨_, rfl⟩
      go_loopw [9, 46] (fun v i wr => ∃ j : Nat, j ≤ t ∧ i = .int .i64 (j : Int) ∧ wr.ownsRow wo.heap.size 3 1 v j ((ints (List.range j)).map (Value.int .i64)) ∧ Below wo.heap.size wo wr) (fun _ i _ => t - (intOf i).toNat)
      case atStart => exact ⟨0, by omega, rfl, World.ownsRow_nil _ _ _ _, Below.refl _ _⟩
      case round =>
        obtain ⟨j, hj, rfl, hown, hb⟩ := hrel
        by_cases hlt2 : j < t
        · have hbA : Below wr.heap.size wr (wr.alloc (.cells #[.int .i64 (j : Int)] 3)) := (Below.refl _ _).alloc (Nat.le_refl _) _
          have HOW := Lib.hid (Kp.own (S := fun _ => False) (Kp.of_below hbA) hown (fun _ _ => id))
          have HOWN := Lib.hid hown
          have HB2 := Lib.hid hb
          have HBA := Lib.hid hbA
          clear hown hb hbA
          go_wp2_with (first
            | (at_builtin; refine wpList_app1 _ rfl (.tmp 49) (.tmp 51) 37 3 (.int .i64 0) 8 Try.underlying37 infoInt rfl rfl wo.heap.size _ j ((ints (List.range j)).map (Value.int .i64)) rfl HOW.out wr.heap.size 1 3 (.int .i64 (j : Int)) rfl (Blk.new wr _ _) rfl (by omega) (by omega) (Nat.le_trans HB2.out.size HBA.out.size) ?_; intro v4 w4 hp4))
          have HR : Hid (w4.ownsRow wo.heap.size 3 1 v4 (j + 1) ((ints (List.range (j + 1))).map (Value.int .i64)) ∧ Below wo.heap.size wo w4) := by
            have h6 := hp4.1
            refine Lib.hid ⟨?_, (below_thenB HB2.out HB2.out.size HBA.out).grown hp4.2.1 (Nat.le_trans HB2.out.size HBA.out.size) (fun b hb' => own_base HOWN.out b hb')⟩
            rw [ints_snoc, List.map_append]
            exact h6
          clear hp4
          go_roundw
          case rel => exact ⟨j + 1, by omega, by go_num, HR.out⟩
          case measure => simp [intOf]; omega
        · obtain rfl : j = t := by omega
          obtain ⟨A6, c6, rfl, hIS⟩ := IS.of_own hown (by unfold lim; omega)
          have HIS := Lib.hid hIS
          have HB2 := Lib.hid hb
          clear hown hb hIS
          go_wp2_with fail
          refine (newTable_any k _ hd8).mono ?_
          rintro e w7 ⟨rfl, htab, hb7⟩
          go_wp2_with fail
          have hzr : ∀ i, i < j → gN (List.range j) i < 16 := fun i hi => by
            rw [gN_eq (by simpa using hi)]; simp; omega
          refine (of_any wr.heap.size k A6 j c6 (List.range j) w7 htab hd8 (HIS.out.kept hb7) hzr (by omega)).mono ?_
          rintro e w8 ⟨v8, rfl, hv8⟩
          obtain ⟨g8, n8, rfl, hn8, hms8, hb8⟩ := hv8.ms (by rw [ofM_length, List.length_range]; unfold lim; omega)
          obtain rfl : n8 = j := by rw [← hn8, ofM_length, List.length_range]
          obtain ⟨A9, c9, e9, hms9⟩ := ((HO.out.kept HB2.out).kept hb7).kept hb8 |>.ms (by unfold lim; omega)
          injection e9 with e91 _ e93
          subst e91 e93
          clear hv8 hn8
          go_wp2_with fail
          refine (apply_any _ _ n8 k n8 cv (ofM k (List.range n8)) (fillB blocks L k) L w8 hms8 hms9 (ofM_rect _ _) (fillB_rect _ _ _ hrect (by rw [HL1.out]; exact hnd)) (by omega) (by omega) (by omega) (by omega) (by omega)).mono ?_
          rintro e w9 ⟨v9, rfl, g9, cs9, n9, rfl, hn9, hg9, hr9, hb9⟩
          have HR : Hid (NewM 22 (encM k n8 blocks L) w (.slice (some ⟨g9, 0, none⟩) n9 n9) w9) :=
            Lib.hid ⟨g9, cs9, n9, rfl, hn9, Nat.le_trans HB.out.size (Nat.le_trans HB2.out.size (Nat.le_trans hb7.size (Nat.le_trans hb8.size hg9))), hr9, below_then (below_then (below_then (below_then HB.out HB2.out) hb7) hb8) hb9⟩
          clear hms8 hms9 hn9 hr9 hb9 hb8 hb7 htab
          go_wp2_with fail
          go_ret2
          exact ⟨_, rfl, HR.out⟩
end Go.Proofs.Ytoeeklkebcgmaaa
/- Contracts of package reedsolomon: Encode's refusals, checkIndices, checkGiven. -/
namespace Go.Proofs.Ytoeeklkebcgmaaa
open Go.RowKit Gf

attribute [local go_sem] Gf.xor_bits Gf.and_bits Gf.or_bits Gf.ne_zero_iff Gf.eq_zero_iff Gf.eq_one_iff Gf.beq_bytes Gf.bne_bytes Gf.bv_toNat

/-- Number k is an index below t and none of the earlier ones. -/
def idxOk (t : Int) (z : List Int) (k : Nat) : Bool := decide (0 ≤ gI z k) && decide (gI z k < t) && !((List.range k).any fun j => gI z j == gI z k)
def idxB (t : Int) (z : List Int) : Bool := (List.range z.length).all (idxOk t z)
theorem idxB_true {t : Int} {z : List Int} (h : ∀ i, i < z.length → idxOk t z i = true) : idxB t z = true := by
  unfold idxB; rw [List.all_eq_true]; intro i hi; exact h i (List.mem_range.1 hi)
theorem idxB_false {t : Int} {z : List Int} {i : Nat} (hi : i < z.length) (h : idxOk t z i = false) : idxB t z = false := by
  unfold idxB; rw [List.all_eq_false]; exact ⟨i, List.mem_range.2 hi, by simp [h]⟩
theorem idxB_spec {t : Int} {z : List Int} (h : idxB t z = true) (i : Nat) (hi : i < z.length) : 0 ≤ gI z i ∧ gI z i < t ∧ ∀ j, j < i → gI z j ≠ gI z i := by
  unfold idxB at h; rw [List.all_eq_true] at h; have := h i (List.mem_range.2 hi)
  simp [idxOk] at this
  exact ⟨this.1.1, this.1.2, this.2⟩
/-- Is i among the first k? -/
def seenB (z : List Int) (k i : Nat) : Bool := (List.range k).any fun j => gI z j == (i : Int)
theorem seenB_succ (z : List Int) (k i : Nat) : seenB z (k + 1) i = (seenB z k i || (gI z k == (i : Int))) := by
  unfold seenB; rw [List.range_succ, List.any_append]; simp
def seenA (z : List Int) (k : Nat) : Array Value := ((List.range 16).map fun i => Value.bool (seenB z k i)).toArray
theorem seenA_zero (z : List Int) : seenA z 0 = #[.bool false, .bool false, .bool false, .bool false, .bool false, .bool false, .bool false, .bool false, .bool false, .bool false, .bool false, .bool false, .bool false, .bool false, .bool false, .bool false] := by
  show ((List.range 16).map fun _ => Value.bool false).toArray = _
  kernel_rfl
theorem seenA_get (z : List Int) (k i : Nat) (h : i < 16) : (seenA z k)[i]? = some (.bool (seenB z k i)) := by
  simp [seenA, h]
theorem seenA_set (z : List Int) (k i : Nat) (_h : i < 16) (hz : gI z k = (i : Int)) : (seenA z k).setIfInBounds i (.bool true) = seenA z (k + 1) := by
  unfold seenA
  rw [List.setIfInBounds_toArray]
  congr 1
  apply List.ext_getElem (by simp)
  intro j h1 h2
  simp only [List.getElem_set, List.getElem_map, List.getElem_range]
  by_cases e : i = j
  · subst e
    rw [if_pos rfl, seenB_succ, hz]
    simp
  · rw [if_neg e, seenB_succ, hz]
    have : ((i : Int) == (j : Int)) = false := by simp; omega
    rw [this, Bool.or_false]

def ChkRet (r : Int) (w : World) (e : Ending) (w' : World) : Prop := e = .returned (.int .i64 r) ∧ Below w.heap.size w w'
def ixE (d t : Int) (z : List Int) : Int := if vldB d t && idxB t z then 0 else 1

set_option maxHeartbeats 4000000 in
theorem checkIndices_any (d t : Int) (A : Option Addr) (n c : Nat) (z : List Int) (w : World) (h : IS w A n c z) :
    Calls Try.prog 49 #[.int .i64 d, .int .i64 t, .slice A n c] w (ChkRet (ixE d t z) w) := by
  have hn := h.len_le
  have HL := Lib.hid h.1
  cases hv : vldB d t with
  | false =>
    have HR : Hid (ixE d t z = 1) := Lib.hid (by unfold ixE; rw [hv]; rfl)
    go_enter Try.func49, Try.ntmps49
    go_wp2_with (go_at_call 11; refine (rsvalid_any _ _ _).mono ?_; rintro e w' ⟨rfl, rfl⟩; rw [hv])
    go_ret
    exact ⟨by rw [HR.out]; rfl, Below.refl _ _⟩
  | true =>
    have ht := vld_iff.1 hv
    have HRf : Hid (idxB t z = false → ixE d t z = 1) := Lib.hid (by intro h; unfold ixE; rw [hv, h]; rfl)
    have HRt : Hid (idxB t z = true → ixE d t z = 0) := Lib.hid (by intro h; unfold ixE; rw [hv, h]; rfl)
    go_enter Try.func49, Try.ntmps49
    go_wp2_with (go_at_call 11; refine (rsvalid_any _ _ _).mono ?_; rintro e w' ⟨rfl, rfl⟩; rw [hv])
    clear hv
    go_loopw [16] (fun i wr => ∃ k : Nat, k ≤ n ∧ i = .int .i64 (k : Int) ∧ Hid (∀ j, j < k → idxOk t z j = true) ∧ Blk wr w.heap.size 93 (seenA z k) ∧ Below w.heap.size w wr) (fun i _ => n - (intOf i).toNat)
    case atStart =>
      refine ⟨0, by omega, rfl, Lib.hid (fun j hj => absurd hj (by omega)), ?_, (Below.refl _ _).alloc (Nat.le_refl _) _⟩
      rw [seenA_zero]
      exact Blk.new w _ _
    case round =>
      obtain ⟨k, hk, rfl, hall, hb1, hb⟩ := hrel
      by_cases hlt : k < n
      · obtain ⟨g, o, rfl, hc⟩ := h.at_ hb hlt
        obtain ⟨x, hx⟩ : ∃ x, x = gI z k := ⟨_, rfl⟩
        rw [← hx] at hc
        have HX := Lib.hid hx
        clear hx h
        by_cases h1 : x < 0
        · have q1 : decide (x < 0) = true := by simpa using h1
          have HF : Hid (ixE d t z = 1) := Lib.hid (HRf.out (idxB_false (i := k) (by rw [HL.out]; exact hlt) (by unfold idxOk; rw [← HX.out]; simp; omega)))
          have HB := Lib.hid hb
          clear hb hb1 hall HRf HRt
          go_wp2
          go_ret
          exact ⟨by rw [HF.out]; rfl, HB.out⟩
        · have q1 : decide (x < 0) = false := by simpa using h1
          by_cases h2 : t ≤ x
          · have q2 : decide (t ≤ x) = true := by simpa using h2
            have HF : Hid (ixE d t z = 1) := Lib.hid (HRf.out (idxB_false (i := k) (by rw [HL.out]; exact hlt) (by unfold idxOk; rw [← HX.out]; simp; omega)))
            have HB := Lib.hid hb
            clear hb hb1 hall HRf HRt
            go_wp2
            go_ret
            exact ⟨by rw [HF.out]; rfl, HB.out⟩
          · have q2 : decide (t ≤ x) = false := by simpa using h2
            obtain ⟨y, rfl⟩ : ∃ y : Nat, x = (y : Int) := ⟨x.toNat, by omega⟩
            have hy : y < 16 := by omega
            have hy' : (y : Int) < 16 := by omega
            have hs : wr.cell? ⟨w.heap.size, y, none⟩ = some (.bool (seenB z k y)) := by rw [hb1.cell, seenA_get _ _ _ hy]
            have hf := hb1.frozen y
            cases hsb : seenB z k y with
            | true =>
              rw [hsb] at hs
              have HF : Hid (ixE d t z = 1) := Lib.hid (HRf.out (idxB_false (i := k) (by rw [HL.out]; exact hlt) (by
                have hsb' : ((List.range k).any fun j => gI z j == (y : Int)) = true := hsb
                unfold idxOk; rw [← HX.out, hsb']; simp)))
              have HB := Lib.hid hb
              clear hb hb1 hall HRf HRt hsb
              go_wp2
              go_ret
              exact ⟨by rw [HF.out]; rfl, HB.out⟩
            | false =>
              rw [hsb] at hs
              have HA : Hid (∀ j, j < k + 1 → idxOk t z j = true) := Lib.hid (fun j hj => by
                by_cases e : j = k
                · subst e
                  have hsb' : ((List.range j).any fun i => gI z i == (y : Int)) = false := hsb
                  unfold idxOk; rw [← HX.out, hsb']; simp; omega
                · exact hall.out j (by omega))
              have HB : Hid (Blk (wr.setCell ⟨w.heap.size, y, none⟩ (.bool true)) w.heap.size 93 (seenA z (k + 1)) ∧ Below w.heap.size w (wr.setCell ⟨w.heap.size, y, none⟩ (.bool true))) := by
                have h3 := hb1.set_ y (.bool true)
                rw [seenA_set z k y hy HX.out.symm] at h3
                exact Lib.hid ⟨h3, hb.setCell (p := ⟨w.heap.size, y, none⟩) (Nat.le_refl _) _⟩
              clear hb hb1 hall HRf HRt hsb
              go_wp2
              go_roundw
              case rel => exact ⟨k + 1, by omega, by go_num, HA, HB.out⟩
              case measure => simp [intOf]; omega
      · have HT : Hid (ixE d t z = 0) := Lib.hid (HRt.out (idxB_true (fun i hi => hall.out i (by rw [HL.out] at hi; omega))))
        have HB := Lib.hid hb
        clear h hb hb1 hall HRf HRt
        go_wp2
        go_ret
        exact ⟨by rw [HT.out]; rfl, HB.out⟩

/-- The error of given pieces. -/
def gvE (d t : Int) (z : List Int) (m : List (List UInt8)) : Int :=
  if ixE d t z = 0 then (if z.length = m.length ∧ oneB m = true then (if (z.length : Int) < d then 10 else 0) else 1) else 1

set_option maxHeartbeats 4000000 in
theorem checkGiven_any (d t : Int) (A A' : Option Addr) (n c n' c' : Nat) (z : List Int) (m : List (List UInt8)) (w : World) (h : IS w A n c z) (h' : MS w A' n' c' m) :
    Calls Try.prog 39 #[.int .i64 d, .int .i64 t, .slice A n c, .slice A' n' c'] w (ChkRet (gvE d t z m) w) := by
  have hn := h.len_le
  have hn' := h'.len_le
  have HL := Lib.hid h.1
  have HL' := Lib.hid h'.1
  go_enter Try.func39, Try.ntmps39
  go_wp2_with fail
  refine (checkIndices_any d t A n c z w h).mono ?_
  rintro e w1 ⟨rfl, hb⟩
  have h'' := h'.kept hb
  have HB := Lib.hid hb
  clear hb h h'
  by_cases hx : ixE d t z = 0
  · rw [hx]
    by_cases hnn : n = n'
    · have q1 : ((n : Int) != (n' : Int)) = false := by simp [hnn]
      have HN := Lib.hid hnn
      clear hnn
      go_wp2_with fail
      refine (oneLength_any A' n' c' m _ h'').mono ?_
      rintro e w2 ⟨rfl, rfl⟩
      cases ho : oneB m with
      | false =>
        have HR : Hid (gvE d t z m = 1) := Lib.hid (by unfold gvE; rw [if_pos hx, ho]; simp)
        clear h''
        go_wp2_with fail
        go_ret
        exact ⟨by rw [HR.out]; rfl, HB.out⟩
      | true =>
        by_cases hs : (n : Int) < d
        · have q3 : decide ((n : Int) < d) = true := by simpa using hs
          have HR : Hid (gvE d t z m = 10) := Lib.hid (by unfold gvE; rw [if_pos hx, if_pos ⟨by rw [HL.out, HL'.out, HN.out], ho⟩, HL.out, if_pos hs])
          clear h''
          go_wp2_with fail
          go_ret
          exact ⟨by rw [HR.out]; rfl, HB.out⟩
        · have q3 : decide ((n : Int) < d) = false := by simpa using hs
          have HR : Hid (gvE d t z m = 0) := Lib.hid (by unfold gvE; rw [if_pos hx, if_pos ⟨by rw [HL.out, HL'.out, HN.out], ho⟩, HL.out, if_neg hs])
          clear h''
          go_wp2_with fail
          go_ret
          exact ⟨by rw [HR.out]; rfl, HB.out⟩
    · have q1 : ((n : Int) != (n' : Int)) = true := by simp; omega
      have HR : Hid (gvE d t z m = 1) := Lib.hid (by unfold gvE; rw [if_pos hx, if_neg (by rw [HL.out, HL'.out]; exact fun e => hnn e.1)])
      clear h''
      go_wp2_with fail
      go_ret
      exact ⟨by rw [HR.out]; rfl, HB.out⟩
  · have hx1 : ixE d t z = 1 := by unfold ixE at hx ⊢; split at hx <;> simp_all
    have HR : Hid (gvE d t z m = 1) := Lib.hid (by unfold gvE; rw [if_neg hx])
    rw [hx1]
    clear h'' hx hx1
    go_wp2_with fail
    go_ret
    exact ⟨by rw [HR.out]; rfl, HB.out⟩
end Go.Proofs.Ytoeeklkebcgmaaa
/- Contracts of package reedsolomon: Encode's refusals, predict, Repair, Coefficients. -/
namespace Go.Proofs.Ytoeeklkebcgmaaa
open Go.RowKit Gf

attribute [local go_sem] Gf.xor_bits Gf.and_bits Gf.or_bits Gf.ne_zero_iff Gf.eq_zero_iff Gf.eq_one_iff Gf.beq_bytes Gf.bne_bytes Gf.bv_toNat

theorem gR_take {m : List (List UInt8)} {k j : Nat} (h : j < k) : gR (m.take k) j = gR m j := by
  unfold gR; rw [List.getD_eq_getElem?_getD, List.getD_eq_getElem?_getD, List.getElem?_take_of_lt h]
theorem MS.take {w : World} {A : Option Addr} {n c k : Nat} {m : List (List UInt8)} (h : MS w A n c m) (hk : k ≤ n) : MS w A k c (m.take k) :=
  ⟨by rw [List.length_take, h.1]; omega, Nat.le_trans hk h.2.1, by have := h.2.2.1; omega, fun j hj => by
    obtain ⟨g, o, A', n', c', e, hc, hb⟩ := h.2.2.2 j (by omega)
    exact ⟨g, o, A', n', c', e, hc, by rw [gR_take hj]; exact hb⟩⟩
theorem Rect.take {m : List (List UInt8)} {L : Nat} (h : Rect m L) (k : Nat) : Rect (m.take k) L := fun i hi => by
  rw [List.length_take] at hi
  rw [gR_take (by omega)]
  exact h i (by omega)

/-- The sum of the first pieces with factors l. -/
def prd (m : List (List UInt8)) (l : List UInt8) (L : Nat) : List UInt8 := gR (cmat [l] (m.take l.length) L 1 0) 0

set_option maxHeartbeats 4000000 in
theorem predict_any (A A' : Option Addr) (n c n' c' : Nat) (m : List (List UInt8)) (l : List UInt8) (L : Nat) (w : World) (h : MS w A n c m) (h' : BS w A' n' c' l) (hr : Rect m L) (hL : L ≤ 65536) (hn' : 0 < n') (hn8 : n' ≤ 64) (hnn : n' ≤ n) :
    Calls Try.prog 48 #[.slice A n c, .slice A' n' c'] w (Rets (GivesB (prd m l L)) w) := by
  have hlen := h.len_le
  have hc := h.2.1
  obtain ⟨g, o, _, _, _, rfl, _⟩ := h.at_ (Below.refl _ _) (show 0 < n by omega)
  have q1 : (n' : Int) ≤ (c : Int) := by omega
  have HL := Lib.hid h'.1
  have hbA : Below w.heap.size w (w.alloc (.cells #[.slice A' n' c'] 22)) := (Below.refl _ _).alloc (Nat.le_refl _) _
  have HM := Lib.hid ((h.take hnn).kept hbA)
  have HF : Hid (MS (w.alloc (.cells #[.slice A' n' c'] 22)) (some ⟨w.heap.size, 0, none⟩) 1 1 [l]) := Lib.hid ⟨rfl, Nat.le_refl _, by unfold lim; omega, fun k hk => by
    obtain rfl : k = 0 := by omega
    exact ⟨w.heap.size, 0, A', n', c', rfl, by rw [(Blk.new w _ _).cell]; rfl, h'.kept hbA⟩⟩
  have HB := Lib.hid hbA
  clear hbA h h'
  go_enter Try.func48, Try.ntmps48
  go_wp2_with fail
  refine (apply_any _ _ 1 n' 1 c [l] (m.take n') L _ HF.out HM.out (fun i hi => by
    obtain rfl : i = 0 := by simp at hi; omega
    exact HL.out) (hr.take _) (by omega) (by omega) (by omega) (by omega) (by omega)).mono ?_
  rintro e w2 ⟨v, rfl, g2, cs, n2, rfl, hn2, hg, hr2, hb2⟩
  obtain rfl : n2 = 1 := by rw [← hn2, cmat_length]; rfl
  obtain ⟨A3, k3, c3, hc3, hbs⟩ := hr2.cell (i := 0) (by rw [cmat_length]; simp)
  have HR : Hid (GivesB (prd m l L) w (.slice A3 k3 c3) w2) := Lib.hid ⟨A3, k3, c3, rfl, by unfold prd; rw [HL.out]; exact hbs, below_then HB.out hb2⟩
  clear hr2 hbs hn2 hg hb2 HF HM
  go_wp2_with fail
  go_ret
  exact ⟨_, rfl, HR.out⟩

theorem facM_rect {d : Nat} {z y : List Nat} (h : d ≤ z.length) : Rect (facM d z y) d := by
  intro i hi
  rw [facM_length] at hi
  unfold facM
  rw [cmat_get _ _ _ _ _ _ (by rw [ofM_length]; exact hi)]
  exact crow_length _ _ _ _ _ _ (invT_rect h) (by rw [invT_length]; exact ofM_rect _ _) (by rw [ofM_length]; exact hi) (by omega)

/-- The factors of one piece. -/
def fac1 (d : Nat) (z : List Nat) (i : Nat) : List UInt8 := gR (facM d z [i]) 0
theorem fac1_length {d : Nat} {z : List Nat} {i : Nat} (h : d ≤ z.length) : (fac1 d z i).length = d := facM_rect h 0 (by rw [facM_length]; simp)

theorem one_int (w : World) (i : Nat) : IS (w.alloc (.cells #[.int .i64 (i : Int)] 3)) (some ⟨w.heap.size, 0, none⟩) 1 1 (ints [i]) := ⟨rfl, Nat.le_refl _, by unfold lim; omega, fun k hk => by
    obtain rfl : k = 0 := by omega
    exact ⟨w.heap.size, 0, rfl, by rw [(Blk.new w _ _).cell]; rfl⟩⟩

set_option maxHeartbeats 4000000 in
theorem repair_ok (d t i : Nat) (A A' : Option Addr) (n c c' : Nat) (z : List Nat) (m : List (List UInt8)) (L : Nat) (w : World) (h : IS w A n c (ints z)) (h' : MS w A' n c' m)
    (hok : gvE d t (ints z) m = 0) (hd : 1 ≤ d) (hd8 : d ≤ 8) (ht : t ≤ 16) (hi : i < t) (hz : ∀ i, i < n → gN z i < 16) (hn : d ≤ n) (hrect : Rect m L) (hL : L ≤ 65536) (hreg : Reg d z) :
    Calls Try.prog 28 #[.int .i64 (d : Int), .int .i64 (t : Int), .slice A n c, .slice A' n c', .int .i64 (i : Int)] w (Rets0 (GivesB (prd m (fac1 d z i) L)) w) := by
  have q1 : decide ((i : Int) < 0) = false := by simp
  have q2 : decide ((t : Int) ≤ (i : Int)) = false := by simp; omega
  have HZ : Hid (z.length = n) := Lib.hid (by rw [← ints_length, h.1])
  have HI := Lib.hid h
  have HM := Lib.hid h'
  clear h h'
  go_enter Try.func28, Try.ntmps28
  go_wp2_with fail
  refine (checkGiven_any d t A A' n c n c' (ints z) m w HI.out HM.out).mono ?_
  rintro e w1 ⟨rfl, hb1⟩
  rw [hok]
  go_wp2_with fail
  refine (newTable_any d _ hd8).mono ?_
  rintro e w2 ⟨rfl, htab, hb2⟩
  go_wp2_with fail
  have hbA : Below w2.heap.size w2 (w2.alloc (.cells #[.int .i64 (i : Int)] 3)) := (Below.refl _ _).alloc (Nat.le_refl _) _
  refine (factors_any w1.heap.size d A _ n 1 c 1 z [i] _ (htab.kept hbA) hd8 hd (((HI.out.kept hb1).kept hb2).kept hbA) hz hn (one_int w2 i) (fun k hk => by
    obtain rfl : k = 0 := by omega
    show i < 16
    omega) (by omega) (by omega) hreg).mono ?_
  rintro e w3 ⟨v, rfl, g3, cs3, n3, rfl, hn3, hg3, hr3, hb3⟩
  obtain rfl : n3 = 1 := by rw [← hn3, facM_length]; rfl
  obtain ⟨A4, k4, c4, hc4, hbs⟩ := hr3.cell (i := 0) (by rw [facM_length]; simp)
  obtain rfl : k4 = d := by rw [← hbs.1]; exact fac1_length (by rw [HZ.out]; exact hn)
  have HM3 := Lib.hid ((((HM.out.kept hb1).kept hb2).kept hbA).kept hb3)
  have HBS := Lib.hid hbs
  have HB : Hid (Below w.heap.size w w3) := Lib.hid (below_then (below_then (below_then hb1 hb2) hbA) hb3)
  clear hn3 hr3 hbs hb1 hb2 hbA hb3 htab hg3 HI HM
  go_wp2_with fail
  refine (predict_any A' A4 n c' k4 c4 m (fac1 k4 z i) L w3 HM3.out HBS.out hrect hL (by omega) (by omega) (by omega)).mono ?_
  rintro e w4 ⟨v4, rfl, A5, n5, c5, rfl, hbs5, hb5⟩
  have HR : Hid (GivesB (prd m (fac1 k4 z i) L) w (.slice A5 n5 c5) w4) := Lib.hid ⟨A5, n5, c5, rfl, hbs5, below_then HB.out hb5⟩
  clear hbs5 hb5 HM3 HBS
  go_wp2_with fail
  go_ret2
  exact ⟨_, rfl, HR.out⟩
end Go.Proofs.Ytoeeklkebcgmaaa
/- Bytes as strings: string(b), and bytes.Equal. -/
namespace Go.Proofs.Ytoeeklkebcgmaaa
open Go.RowKit Gf

/-- The string of bytes. -/
def strB (l : List UInt8) : ByteArray := ⟨l.toArray⟩
theorem strB_inj {l l' : List UInt8} (h : strB l = strB l') : l = l' := by
  unfold strB at h
  injection h with h
  simpa using congrArg Array.toList h
theorem strB_list (l : List UInt8) : (strB l).toList = l := by rw [ByteArray.toList_eq]; rfl
theorem strB_eq (l l' : List UInt8) : ((strB l).toList == (strB l').toList) = decide (l = l') := by
  rw [strB_list, strB_list]
  by_cases h : l = l'
  · simp [h]
  · simp [h]
theorem strB_bne (l l' : List UInt8) : ((strB l).toList != (strB l').toList) = !decide (l = l') := by rw [bne, strB_eq]
theorem strB_nums (l : List UInt8) : strOfNums (l.map bv) = strB l := by
  unfold strOfNums strB
  congr 2
  rw [List.map_map]
  conv => rhs; rw [← List.map_id l]
  apply List.map_congr_left
  intro x _
  simp [bv]
theorem conv_str {w : World} {A : Option Addr} {n c : Nat} {l : List UInt8} (h : BS w A n c l) :
    (convert 22 9 (.slice A n c)).run Try.prog w = .ok (.string (strB l)) w := by
  cases A with
  | none =>
    have h0 : n = 0 := by
      rcases Nat.eq_zero_or_pos n with h0 | h0
      · exact h0
      · obtain ⟨g, o, e, _⟩ := h.2.2.2 0 h0
        cases e
    have hl : l = [] := List.eq_nil_of_length_eq_zero (by rw [h.1, h0])
    rw [run_convert_bytes_nil w _ _ Try.underlying22 Try.underlying5 n c _ Try.underlying9, hl]
    rfl
  | some a =>
    by_cases h0 : n = 0
    · have hl : l = [] := List.eq_nil_of_length_eq_zero (by rw [h.1, h0])
      subst h0 hl
      refine (run_convert_bytes_string w 22 9 5 (some a) 0 c Try.underlying22 Try.underlying5 Try.underlying9).trans ?_
      exact run_bytesToString w a 0 c [] (run_loadCells_list (P := Try.prog) w a [] (fun j v hj => by simp at hj))
    · obtain ⟨g, o, e, _⟩ := h.2.2.2 0 (by omega)
      obtain rfl := Option.some.inj e
      rw [run_convert_bytes_arg w _ _ Try.underlying22 Try.underlying5 g o n c (l.map bv) (by simp [h.1]) (fun i hi => by
        obtain ⟨g', o', e', hc⟩ := h.2.2.2 i hi
        cases Option.some.inj e'
        have hl : i < l.length := by rw [h.1]; exact hi
        rw [hc]
        show some (B (gB l i)) = _
        rw [gB_eq hl, B]
        simp [List.getD, List.getElem?_eq_getElem hl]) _ Try.underlying9, strB_nums]

set_option maxHeartbeats 1000000 in
theorem equal_any (A A' : Option Addr) (n c n' c' : Nat) (l l' : List UInt8) (w : World) (h : BS w A n c l) (h' : BS w A' n' c' l') :
    Calls Try.prog 61 #[.slice A n c, .slice A' n' c'] w fun e w' => e = .returned (.bool (decide (l = l'))) ∧ w = w' := by
  have c1 := conv_str h
  have c2 := conv_str h'
  have HE := Lib.hid (strB_eq l l')
  clear h h'
  go_enter Try.func61, Try.ntmps61
  go_wp2
  go_ret
  exact ⟨ret_bool (by first | exact HE.out | (rw [← HE.out]; rfl) | trace_state), rfl⟩
end Go.Proofs.Ytoeeklkebcgmaaa
/- Contracts of package reedsolomon: conflict. -/
namespace Go.Proofs.Ytoeeklkebcgmaaa
open Go.RowKit Gf

attribute [local go_sem] Gf.xor_bits Gf.and_bits Gf.or_bits Gf.ne_zero_iff Gf.eq_zero_iff Gf.eq_one_iff Gf.beq_bytes Gf.bne_bytes Gf.bv_toNat

/-- The first place at which two lists differ. -/
def fdf : List UInt8 → List UInt8 → Nat
  | a :: l, b :: l' => if a = b then fdf l l' + 1 else 0
  | _, _ => 0
theorem gB_zero (a : UInt8) (l : List UInt8) : gB (a :: l) 0 = a := rfl
theorem gB_succ (a : UInt8) (l : List UInt8) (i : Nat) : gB (a :: l) (i + 1) = gB l i := rfl
theorem fdf_spec : ∀ (l l' : List UInt8), l.length = l'.length → l ≠ l' → fdf l l' < l.length ∧ (∀ i, i < fdf l l' → gB l i = gB l' i) ∧ gB l (fdf l l') ≠ gB l' (fdf l l')
  | [], [], _, h => absurd rfl h
  | [], _ :: _, h, _ => by simp at h
  | _ :: _, [], h, _ => by simp at h
  | a :: l, b :: l', h, hne => by
    by_cases e : a = b
    · subst e
      obtain ⟨h1, h2, h3⟩ := fdf_spec l l' (by simpa using h) (fun e => hne (by rw [e]))
      simp only [fdf, if_true, List.length_cons]
      refine ⟨by omega, fun i hi => ?_, by rw [gB_succ, gB_succ]; exact h3⟩
      cases i with
      | zero => rfl
      | succ i => rw [gB_succ, gB_succ]; exact h2 i (by omega)
    · simp only [fdf, if_neg e, List.length_cons]
      exact ⟨by omega, fun i hi => absurd hi (by omega), e⟩

/-- What conflict holds after j factors. -/
def cfl (m F : List (List UInt8)) (d L : Nat) : Nat → Int
  | 0 => -1
  | j + 1 => if gR m (d + j) = prd m (gR F j) L then cfl m F d L j else
      if cfl m F d L j < 0 ∨ (fdf (gR m (d + j)) (prd m (gR F j) L) : Int) < cfl m F d L j then (fdf (gR m (d + j)) (prd m (gR F j) L) : Int) else cfl m F d L j
theorem cfl_bound {m F : List (List UInt8)} {d L n : Nat} (hr : Rect m L) (hm : m.length = n) (hL : L ≤ 65536) : ∀ j, d + j ≤ n → (∀ i, i < j → (prd m (gR F i) L).length = L) → -1 ≤ cfl m F d L j ∧ cfl m F d L j < 65536
  | 0, _, _ => by simp [cfl]
  | j + 1, h, hp => by
    have ih := cfl_bound (d := d) (F := F) hr hm hL j (by omega) (fun i hi => hp i (by omega))
    simp only [cfl]
    by_cases e : gR m (d + j) = prd m (gR F j) L
    · rw [if_pos e]; exact ih
    · rw [if_neg e]
      have hl := hr (d + j) (by omega)
      have := (fdf_spec _ _ (by rw [hl, hp j (by omega)]) e).1
      split <;> omega
theorem prd_length {m : List (List UInt8)} {l : List UInt8} {L n : Nat} (hr : Rect m L) (hm : m.length = n) (hl : l.length ≤ n) : (prd m l L).length = L := by
  unfold prd
  rw [cmat_get _ _ _ _ _ _ (by simp)]
  refine crow_length _ _ _ _ _ _ (hr.take _) (fun i hi => ?_) (by simp) (by omega)
  obtain rfl : i = 0 := by simp at hi; omega
  show l.length = _
  rw [List.length_take]; omega

set_option maxHeartbeats 4000000 in
theorem conflict_any (A A' : Option Addr) (n c k c' : Nat) (m F : List (List UInt8)) (d L : Nat) (w : World) (h : MS w A n c m) (h' : MS w A' k c' F) (hr : Rect m L) (hL : L ≤ 65536) (hF : Rect F d) (hd : 0 < d) (hd8 : d ≤ 64) (hnk : d + k ≤ n) (hn64 : n ≤ 64) :
    Calls Try.prog 43 #[.slice A n c, .slice A' k c'] w fun e w' => e = .returned (.int .i64 (cfl m F d L k)) ∧ Below w.heap.size w w' := by
  have HLm := Lib.hid h.1
  have HLF := Lib.hid h'.1
  have HP : Hid (∀ j, j < k → (prd m (gR F j) L).length = L) := Lib.hid (fun j hj => prd_length hr h.1 (by rw [hF j (by rw [h'.1]; exact hj)]; omega))
  have HM := Lib.hid h
  have HF' := Lib.hid h'
  have HD := Lib.hid (show 0 < d from hd)
  clear h h'
  go_enter Try.func43, Try.ntmps43
  go_wp2_with fail
  go_loopw [5, 13] (fun f i wr => ∃ j : Nat, j ≤ k ∧ i = .int .i64 (j : Int) ∧ f = .int .i64 (cfl m F d L j) ∧ Below w.heap.size w wr) (fun _ i _ => k - (intOf i).toNat)
  case atStart => exact ⟨0, by omega, rfl, rfl, Below.refl _ _⟩
  case round =>
    obtain ⟨j, hj, rfl, rfl, hb⟩ := hrel
    by_cases hlt : j < k
    · obtain ⟨g, o, A1, n1, c1, rfl, hc1, hr1⟩ := HF'.out.at_ hb hlt
      obtain ⟨g2, o2, A2, n2, c2, rfl, hc2, hr2⟩ := HM.out.at_ hb (show d + j < n by omega)
      obtain rfl : n1 = d := by rw [← hr1.1]; exact hF j (by rw [HLF.out]; exact hlt)
      obtain rfl : n2 = L := by rw [← hr2.1]; exact hr (n1 + j) (by rw [HLm.out]; omega)
      have HB := Lib.hid hb
      have HMr := Lib.hid ((HM.out.kept (Below.refl _ _)).2.2.1)
      have HR1 := Lib.hid hr1
      have HR2 := Lib.hid hr2
      have hcb := cfl_bound (d := n1) (F := F) hr HLm.out hL j (by omega) (fun i hi => HP.out i (by omega))
      obtain ⟨f0, hf0⟩ : ∃ f0, f0 = cfl m F n1 n2 j := ⟨_, rfl⟩
      rw [← hf0] at hcb ⊢
      have HF0 := Lib.hid hf0
      obtain ⟨q, hq⟩ : ∃ q, q = n1 + j := ⟨_, rfl⟩
      rw [← hq] at hc2
      have hw : IntKind.i64.wrap ((n1 : Int) + (j : Int)) = (q : Int) := by rw [IntKind.wrap_i64]; omega
      have hq1 : (q : Int) < (n : Int) := by omega
      have HQ := Lib.hid hq
      clear hb hr1 hr2 hf0 HMr hq
      go_wp2_with fail
      refine Text.wp_region_text (fun w' => w'.cell? ⟨g2, o2 + q, none⟩ = some (.slice A2 n2 c2)) [(0, 4), (1, 4), (2, 4), (3, 4), (4, 4), (5, 4), (7, 4), (8, 4), (6, 0), (9, 2), (10, 4), (11, 4)] (by kernel_rfl) (by kernel_rfl) (fun _ _ _ _ _ h => h) (hc2) ?_
      iterate 8 (refine Text.purek rfl rfl (fun K hK => ⟨_, fun w' => by go_simp <;> rfl, ?_⟩); go_simp; refine hK _ ?_; clear hK K)
      (refine Text.heldk rfl rfl (fun K hK => ⟨_, fun w' hw' => by go_simp <;> rfl, ?_⟩); go_simp; refine hK _ ?_; clear hK K)
      refine Text.eff rfl rfl (fun K hK => ?_)
      go_simp
      refine (predict_any _ A1 n c n1 c1 m (gR F j) n2 wr.drew (HM.out.kept (HB.out)).drew HR1.out.drew hr hL HD.out hd8 (by omega)).mono ?_
      rintro e w4 ⟨v4, rfl, A5, n5, c5, rfl, hbs5, hb5⟩
      have hb5' : Below wr.heap.size wr w4 := below_ofDrew hb5
      refine hK _ _ (cell_kept hb5' hc2) ?_
      obtain rfl : n5 = n2 := by rw [← hbs5.1]; exact HP.out j hlt
      have HB4 : Hid (Below w.heap.size w w4) := Lib.hid (below_then HB.out hb5')
      have HS := Lib.hid hbs5
      have HP2 : Hid (BS w4 A2 n5 c2 (gR m (n1 + j))) := Lib.hid (HR2.out.kept hb5')
      clear hK K hb5 hb5' hbs5 HR1 HR2 HB hc1 hc2
      iterate 2 (refine Text.purek rfl rfl (fun K hK => ⟨_, fun w' => by go_simp <;> rfl, ?_⟩); go_simp; refine hK _ ?_; clear hK K)
      refine Text.done ?_
      go_wp2_with fail
      refine (equal_any A2 A5 n5 c2 n5 c5 _ _ w4 HP2.out HS.out).mono ?_
      rintro e w5 ⟨rfl, rfl⟩
      by_cases heq : gR m (n1 + j) = prd m (gR F j) n5
      · have hdt : decide (gR m (n1 + j) = prd m (gR F j) n5) = true := by simpa using heq
        have HC : Hid (f0 = cfl m F n1 n5 (j + 1)) := Lib.hid (by rw [HF0.out]; simp only [cfl]; rw [if_pos heq])
        rw [hdt]
        clear heq hdt HP2 HS
        go_wp2_with fail
        go_roundw
        case rel => exact ⟨j + 1, by omega, by go_num, by rw [HC.out], HB4.out⟩
        case measure => simp [intOf]; omega
      · have hdt : decide (gR m (n1 + j) = prd m (gR F j) n5) = false := by simpa using heq
        have hsp := fdf_spec _ _ (by rw [HP2.out.1, HS.out.1]) heq
        have hC : cfl m F n1 n5 (j + 1) = if f0 < 0 ∨ (fdf (gR m (n1 + j)) (prd m (gR F j) n5) : Int) < f0 then (fdf (gR m (n1 + j)) (prd m (gR F j) n5) : Int) else f0 := by
          simp only [cfl]; rw [if_neg heq, ← HF0.out]
        rw [hdt]
        obtain ⟨p, hp⟩ : ∃ p, p = fdf (gR m (n1 + j)) (prd m (gR F j) n5) := ⟨_, rfl⟩
        rw [← hp] at hsp hC
        have hpl : p < n5 := by have := hsp.1; rw [HP2.out.1] at this; exact this
        have HSP := Lib.hid hsp
        have HC := Lib.hid hC
        have HPP := Lib.hid hp
        clear heq hdt hsp hC hp
        go_wp2_with fail
        obtain ⟨wo, rfl⟩ : ∃ wo : World, wo = w4 := ⟨_, rfl⟩
        go_loopw [10] (fun x wr => ∃ y : Nat, y ≤ p ∧ x = .int .i64 (y : Int) ∧ Hid (Below wo.heap.size wo wr)) (fun x _ => p - (intOf x).toNat)
        case atStart => exact ⟨0, by omega, rfl, Lib.hid (Below.refl _ _)⟩
        case round =>
          obtain ⟨y, hy, rfl, hb6⟩ := hrel
          obtain ⟨ga, oa, rfl, hca⟩ := HP2.out.at_ hb6.out (show y < n5 by omega)
          obtain ⟨gb, ob, rfl, hcb2⟩ := HS.out.at_ hb6.out (show y < n5 by omega)
          have hyn : y < n5 := by omega
          by_cases hyp : y < p
          · have hq2 : gB (gR m (n1 + j)) y = gB (prd m (gR F j) n5) y := HSP.out.2.1 y hyp
            rw [hq2] at hca
            have hqt : (bv (gB (prd m (gR F j) n5) y) == bv (gB (prd m (gR F j) n5) y)) = true := by simp
            go_wp2_with fail
            refine Text.wp_region_text (fun _ => True) [(0, 4), (1, 4), (2, 4), (4, 4), (5, 4), (6, 4), (3, 1), (7, 1), (8, 4)] (by kernel_rfl) (by kernel_rfl) (fun _ _ _ _ _ h => h) (trivial) ?_
            iterate 6 (refine Text.purek rfl rfl (fun K hK => ⟨_, fun w' => by go_simp <;> rfl, ?_⟩); go_simp; refine hK _ ?_; clear hK K)
            iterate 2 (refine Text.readk rfl rfl (fun K hK => ⟨_, by go_simp <;> rfl, ?_⟩); go_simp; refine hK _ ?_; clear hK K)
            (refine Text.purek rfl rfl (fun K hK => ⟨_, fun w' => by go_simp <;> rfl, ?_⟩); go_simp; refine hK _ ?_; clear hK K)
            refine Text.done ?_
            go_wp2_with fail
            go_roundw
            case rel => exact ⟨y + 1, by omega, by go_num, Lib.hid hb6.out.drew⟩
            case measure => simp [intOf]; omega
          · obtain rfl : y = p := by omega
            have hne : (gB (gR m (n1 + j)) y == gB (prd m (gR F j) n5) y) = false := by
              rw [beq_eq_false_iff_ne]; exact HSP.out.2.2
            have HB7 : Hid (Below w.heap.size w wr.drew) := Lib.hid (below_then HB4.out hb6.out).drew
            by_cases h1 : f0 < 0
            · have q3 : decide (f0 < 0) = true := by simpa using h1
              have HR : Hid ((y : Int) = cfl m F n1 n5 (j + 1)) := Lib.hid (by rw [HC.out, if_pos (.inl h1)])
              go_wp2_with fail
              refine Text.wp_region_text (fun _ => True) [(0, 4), (1, 4), (2, 4), (4, 4), (5, 4), (6, 4), (3, 1), (7, 1), (8, 4)] (by kernel_rfl) (by kernel_rfl) (fun _ _ _ _ _ h => h) (trivial) ?_
              iterate 6 (refine Text.purek rfl rfl (fun K hK => ⟨_, fun w' => by go_simp <;> rfl, ?_⟩); go_simp; refine hK _ ?_; clear hK K)
              iterate 2 (refine Text.readk rfl rfl (fun K hK => ⟨_, by go_simp <;> rfl, ?_⟩); go_simp; refine hK _ ?_; clear hK K)
              (refine Text.purek rfl rfl (fun K hK => ⟨_, fun w' => by go_simp <;> rfl, ?_⟩); go_simp; refine hK _ ?_; clear hK K)
              refine Text.done ?_
              go_wp2_with fail
              go_roundw
              case rel => exact ⟨j + 1, by omega, by go_num, by rw [HR.out], HB7.out⟩
              case measure => simp [intOf]; omega
            · have q3 : decide (f0 < 0) = false := by simpa using h1
              by_cases h2 : (y : Int) < f0
              · have q4 : decide ((y : Int) < f0) = true := by simpa using h2
                have HR : Hid ((y : Int) = cfl m F n1 n5 (j + 1)) := Lib.hid (by rw [HC.out, if_pos (.inr h2)])
                go_wp2_with fail
                refine Text.wp_region_text (fun _ => True) [(0, 4), (1, 4), (2, 4), (4, 4), (5, 4), (6, 4), (3, 1), (7, 1), (8, 4)] (by kernel_rfl) (by kernel_rfl) (fun _ _ _ _ _ h => h) (trivial) ?_
                iterate 6 (refine Text.purek rfl rfl (fun K hK => ⟨_, fun w' => by go_simp <;> rfl, ?_⟩); go_simp; refine hK _ ?_; clear hK K)
                iterate 2 (refine Text.readk rfl rfl (fun K hK => ⟨_, by go_simp <;> rfl, ?_⟩); go_simp; refine hK _ ?_; clear hK K)
                (refine Text.purek rfl rfl (fun K hK => ⟨_, fun w' => by go_simp <;> rfl, ?_⟩); go_simp; refine hK _ ?_; clear hK K)
                refine Text.done ?_
                go_wp2_with fail
                go_roundw
                case rel => exact ⟨j + 1, by omega, by go_num, by rw [HR.out], HB7.out⟩
                case measure => simp [intOf]; omega
              · have q4 : decide ((y : Int) < f0) = false := by simpa using h2
                have HR : Hid (f0 = cfl m F n1 n5 (j + 1)) := Lib.hid (by rw [HC.out, if_neg (by omega)])
                go_wp2_with fail
                refine Text.wp_region_text (fun _ => True) [(0, 4), (1, 4), (2, 4), (4, 4), (5, 4), (6, 4), (3, 1), (7, 1), (8, 4)] (by kernel_rfl) (by kernel_rfl) (fun _ _ _ _ _ h => h) (trivial) ?_
                iterate 6 (refine Text.purek rfl rfl (fun K hK => ⟨_, fun w' => by go_simp <;> rfl, ?_⟩); go_simp; refine hK _ ?_; clear hK K)
                iterate 2 (refine Text.readk rfl rfl (fun K hK => ⟨_, by go_simp <;> rfl, ?_⟩); go_simp; refine hK _ ?_; clear hK K)
                (refine Text.purek rfl rfl (fun K hK => ⟨_, fun w' => by go_simp <;> rfl, ?_⟩); go_simp; refine hK _ ?_; clear hK K)
                refine Text.done ?_
                go_wp2_with fail
                go_roundw
                case rel => exact ⟨j + 1, by omega, by go_num, by rw [HR.out], HB7.out⟩
                case measure => simp [intOf]; omega
    · obtain rfl : j = k := by omega
      have HB := Lib.hid hb
      clear hb
      go_wp2_with fail
      go_ret
      exact ⟨rfl, HB.out⟩
end Go.Proofs.Ytoeeklkebcgmaaa
/- Contracts of package reedsolomon: the refusals of Encode, Repair, Coefficients. -/
namespace Go.Proofs.Ytoeeklkebcgmaaa
open Go.RowKit Gf

attribute [local go_sem] Gf.xor_bits Gf.and_bits Gf.or_bits Gf.ne_zero_iff Gf.eq_zero_iff Gf.eq_one_iff Gf.beq_bytes Gf.bne_bytes Gf.bv_toNat

set_option maxHeartbeats 4000000 in
theorem encode_bad (d t : Int) (A : Option Addr) (n c : Nat) (blocks : List (List UInt8)) (w : World) (h : MS w A n c blocks) (hbad : ¬ (vldB d t = true ∧ 0 < n ∧ (n : Int) ≤ d ∧ oneB blocks = true)) :
    Calls Try.prog 16 #[.int .i64 d, .int .i64 t, .slice A n c] w fun e w' => e = .returned (.tuple #[.slice none 0 0, .int .i64 1]) ∧ w = w' := by
  have hn := h.len_le
  cases hv : vldB d t with
  | false =>
    go_enter Try.func16, Try.ntmps16
    go_wp2_with (go_at_call 11; refine (rsvalid_any _ _ _).mono ?_; rintro e w' ⟨rfl, rfl⟩; rw [hv])
    go_ret2
    exact ⟨rfl, rfl⟩
  | true =>
    by_cases h1 : n = 0
    · have q1 : ((n : Int) == 0) = true := by simp [h1]
      have H1 := Lib.hid h1
      clear h1 hbad h
      go_enter Try.func16, Try.ntmps16
      go_wp2_with (go_at_call 11; refine (rsvalid_any _ _ _).mono ?_; rintro e w' ⟨rfl, rfl⟩; rw [hv])
      go_ret2
      exact ⟨rfl, rfl⟩
    · have q1 : ((n : Int) == 0) = false := by simp; omega
      by_cases h2 : d < (n : Int)
      · have q2 : decide (d < (n : Int)) = true := by simpa using h2
        clear hbad h
        go_enter Try.func16, Try.ntmps16
        go_wp2_with (go_at_call 11; refine (rsvalid_any _ _ _).mono ?_; rintro e w' ⟨rfl, rfl⟩; rw [hv])
        go_ret2
        exact ⟨rfl, rfl⟩
      · have q2 : decide (d < (n : Int)) = false := by simpa using h2
        have ho : oneB blocks = false := by
          cases ho : oneB blocks with
          | false => rfl
          | true => exact absurd ⟨hv, by omega, by omega, ho⟩ hbad
        have H := Lib.hid h
        clear hbad h
        go_enter Try.func16, Try.ntmps16
        go_wp2_with fail
        refine (rsvalid_any _ _ _).mono ?_
        rintro e w' ⟨rfl, rfl⟩
        rw [hv]
        go_wp2_with fail
        refine (oneLength_any A n c blocks _ H.out).mono ?_
        rintro e w' ⟨rfl, rfl⟩
        rw [ho]
        go_wp2_with fail
        go_ret2
        exact ⟨rfl, rfl⟩

set_option maxHeartbeats 4000000 in
theorem coeff_ok (d t i : Nat) (A : Option Addr) (n c : Nat) (z : List Nat) (w : World) (h : IS w A n c (ints z))
    (hok : ixE d t (ints z) = 0) (hd : 1 ≤ d) (hd8 : d ≤ 8) (ht : t ≤ 16) (hi : i < t) (hz : ∀ i, i < n → gN z i < 16) (hn : d ≤ n) (hreg : Reg d z) :
    Calls Try.prog 29 #[.int .i64 (d : Int), .int .i64 (t : Int), .slice A n c, .int .i64 (i : Int)] w (Rets0 (GivesB (fac1 d z i)) w) := by
  have q1 : decide ((i : Int) < 0) = false := by simp
  have q2 : decide ((t : Int) ≤ (i : Int)) = false := by simp; omega
  have q3 : decide ((n : Int) < (d : Int)) = false := by simp; omega
  have HZ : Hid (z.length = n) := Lib.hid (by rw [← ints_length, h.1])
  have HI := Lib.hid h
  clear h
  go_enter Try.func29, Try.ntmps29
  go_wp2_with fail
  refine (checkIndices_any d t A n c (ints z) w HI.out).mono ?_
  rintro e w1 ⟨rfl, hb1⟩
  rw [hok]
  go_wp2_with fail
  refine (newTable_any d _ hd8).mono ?_
  rintro e w2 ⟨rfl, htab, hb2⟩
  go_wp2_with fail
  have hbA : Below w2.heap.size w2 (w2.alloc (.cells #[.int .i64 (i : Int)] 3)) := (Below.refl _ _).alloc (Nat.le_refl _) _
  refine (factors_any w1.heap.size d A _ n 1 c 1 z [i] _ (htab.kept hbA) hd8 hd (((HI.out.kept hb1).kept hb2).kept hbA) hz hn (one_int w2 i) (fun k hk => by
    obtain rfl : k = 0 := by omega
    show i < 16
    omega) (by omega) (by omega) hreg).mono ?_
  rintro e w3 ⟨v, rfl, g3, cs3, n3, rfl, hn3, hg3, hr3, hb3⟩
  obtain rfl : n3 = 1 := by rw [← hn3, facM_length]; rfl
  obtain ⟨A4, k4, c4, hc4, hbs⟩ := hr3.cell (i := 0) (by rw [facM_length]; simp)
  have HR : Hid (GivesB (fac1 d z i) w (.slice A4 k4 c4) w3) := Lib.hid ⟨A4, k4, c4, rfl, hbs, below_then (below_then (below_then hb1 hb2) hbA) hb3⟩
  clear hn3 hr3 hbs hb1 hb2 hbA hb3 htab hg3 HI
  go_wp2_with fail
  go_ret2
  exact ⟨_, rfl, HR.out⟩
end Go.Proofs.Ytoeeklkebcgmaaa
/- Contracts of package reedsolomon: Reconstruct. -/
namespace Go.Proofs.Ytoeeklkebcgmaaa
open Go.RowKit Gf

attribute [local go_sem] Gf.xor_bits Gf.and_bits Gf.or_bits Gf.ne_zero_iff Gf.eq_zero_iff Gf.eq_one_iff Gf.beq_bytes Gf.bne_bytes Gf.bv_toNat

/-- The blocks that the first d pieces determine. -/
def recM (d : Nat) (z : List Nat) (m : List (List UInt8)) (L : Nat) : List (List UInt8) := cmat (invT d z) (m.take d) L d 0

set_option maxHeartbeats 4000000 in
theorem reconstruct_ok (d t : Nat) (A A' : Option Addr) (n c c' : Nat) (z : List Nat) (m : List (List UInt8)) (L : Nat) (w : World) (h : IS w A n c (ints z)) (h' : MS w A' n c' m)
    (hok : gvE d t (ints z) m = 0) (hd : 1 ≤ d) (hd8 : d ≤ 8) (hz : ∀ i, i < n → gN z i < 16) (hn : d ≤ n) (hrect : Rect m L) (hL : L ≤ 65536) (hreg : Reg d z) :
    Calls Try.prog 24 #[.int .i64 (d : Int), .int .i64 (t : Int), .slice A n c, .slice A' n c'] w (Rets0 (NewM 22 (recM d z m L)) w) := by
  have HZ : Hid (z.length = n) := Lib.hid (by rw [← ints_length, h.1])
  have hlen := h'.len_le
  have hcc := h'.2.1
  have qc : (d : Int) ≤ (c' : Int) := by omega
  obtain ⟨g, o, _, _, _, rfl, _⟩ := h'.at_ (Below.refl _ _) (show 0 < n by omega)
  have HI := Lib.hid h
  have HM := Lib.hid h'
  clear h h'
  go_enter Try.func24, Try.ntmps24
  go_wp2_with fail
  refine (checkGiven_any d t A _ n c n c' (ints z) m w HI.out HM.out).mono ?_
  rintro e w1 ⟨rfl, hb1⟩
  rw [hok]
  go_wp2_with fail
  refine Text.wp_region_text (fun _ => True) [(0, 4), (2, 4), (4, 4), (5, 4), (6, 4), (1, 2), (3, 2), (7, 2), (8, 4), (9, 4), (10, 4), (11, 4)] (by kernel_rfl) (by kernel_rfl) (fun _ _ _ _ _ h => h) (trivial) ?_
  iterate 5 (refine Text.purek rfl rfl (fun K hK => ⟨_, fun w' => by go_simp <;> rfl, ?_⟩); go_simp; refine hK _ ?_; clear hK K)
  refine Text.eff rfl rfl (fun K hK => ?_)
  go_simp
  refine (newTable_any d _ hd8).mono ?_
  rintro e w2 ⟨rfl, htab, hb2'⟩
  have hb2 : Below w1.heap.size w1 w2 := below_ofDrew hb2'
  refine hK _ _ trivial ?_
  clear hK K
  refine Text.eff rfl rfl (fun K hK => ?_)
  go_simp
  refine (inverse_t w1.heap.size d A n c z w2 htab hd8 hd ((HI.out.kept hb1).kept hb2) hz hn hreg).mono ?_
  rintro e w3 ⟨v3, rfl, hv3⟩
  obtain ⟨g3, n3, rfl, hn3, hms3, hb3⟩ := hv3.ms (by rw [invT_length]; unfold lim; omega)
  obtain rfl : n3 = d := by rw [← hn3, invT_length]
  refine hK _ _ trivial ?_
  clear hK K hv3 hn3
  refine Text.eff rfl rfl (fun K hK => ?_)
  go_simp
  refine (apply_any _ _ n3 n3 n3 c' (invT n3 z) (m.take n3) L w3 hms3 ((((HM.out.kept hb1).kept hb2).kept hb3).take hn) (invT_rect (by rw [HZ.out]; exact hn)) (hrect.take _) (by omega) (by omega) (by omega) (by omega) (by omega)).mono ?_
  rintro e w9 ⟨v9, rfl, g9, cs9, n9, rfl, hn9, hg9, hr9, hb9⟩
  have HR : Hid (NewM 22 (recM n3 z m L) w (.slice (some ⟨g9, 0, none⟩) n9 n9) w9) :=
    Lib.hid ⟨g9, cs9, n9, rfl, hn9, Nat.le_trans hb1.size (Nat.le_trans hb2.size (Nat.le_trans hb3.size hg9)), hr9, below_then (below_then (below_then hb1 hb2) hb3) hb9⟩
  refine hK _ _ trivial ?_
  clear hK K hms3 hn9 hr9 hb9 hb3 hb2 hb1 hb2' htab
  iterate 4 (refine Text.purek rfl rfl (fun K hK => ⟨_, fun w' => by go_simp <;> rfl, ?_⟩); go_simp; refine hK _ ?_; clear hK K)
  refine Text.done ?_
  go_wp2_with fail
  go_ret2
  exact ⟨_, rfl, HR.out⟩
end Go.Proofs.Ytoeeklkebcgmaaa
/- Contracts of package reedsolomon: the refusals of Reconstruct, Repair, Coefficients. -/
namespace Go.Proofs.Ytoeeklkebcgmaaa
open Go.RowKit Gf

/-- A refusal: nil and the error. -/
def Bad (r : Int) (w : World) (e : Ending) (w' : World) : Prop := e = .returned (.tuple #[.slice none 0 0, .int .i64 r]) ∧ Below w.heap.size w w'

theorem gvE_cases (d t : Int) (z : List Int) (m : List (List UInt8)) : gvE d t z m = 0 ∨ gvE d t z m = 1 ∨ gvE d t z m = 10 := by
  unfold gvE; split <;> (try split) <;> (try split) <;> simp

set_option maxHeartbeats 4000000 in
theorem reconstruct_bad (d t : Int) (A A' : Option Addr) (n c n' c' : Nat) (z : List Int) (m : List (List UInt8)) (w : World) (h : IS w A n c z) (h' : MS w A' n' c' m) (hbad : gvE d t z m ≠ 0) :
    Calls Try.prog 24 #[.int .i64 d, .int .i64 t, .slice A n c, .slice A' n' c'] w (Bad (gvE d t z m) w) := by
  have HI := Lib.hid h
  have HM := Lib.hid h'
  have HC := Lib.hid (gvE_cases d t z m)
  have HB := Lib.hid hbad
  clear h h' hbad
  go_enter Try.func24, Try.ntmps24
  go_wp2_with fail
  refine (checkGiven_any d t A A' n c n' c' z m w HI.out HM.out).mono ?_
  rintro e w1 ⟨rfl, hb1⟩
  have HB1 := Lib.hid hb1
  clear hb1
  rcases HC.out with e | e | e
  · exact absurd e HB.out
  · rw [e]
    have HE := Lib.hid e
    clear HB HC e
    go_wp2_with fail
    go_ret2
    exact ⟨by rw [HE.out]; rfl, HB1.out⟩
  · rw [e]
    have HE := Lib.hid e
    clear HB HC e
    go_wp2_with fail
    go_ret2
    exact ⟨by rw [HE.out]; rfl, HB1.out⟩

/-- Repair's error. -/
def rpE (d t : Int) (z : List Int) (m : List (List UInt8)) (i : Int) : Int := if gvE d t z m = 1 ∨ i < 0 ∨ t ≤ i then 1 else gvE d t z m

set_option maxHeartbeats 4000000 in
theorem repair_bad (d t i : Int) (A A' : Option Addr) (n c n' c' : Nat) (z : List Int) (m : List (List UInt8)) (w : World) (h : IS w A n c z) (h' : MS w A' n' c' m) (hbad : rpE d t z m i ≠ 0) :
    Calls Try.prog 28 #[.int .i64 d, .int .i64 t, .slice A n c, .slice A' n' c', .int .i64 i] w (Bad (rpE d t z m i) w) := by
  have HI := Lib.hid h
  have HM := Lib.hid h'
  have HC := Lib.hid (gvE_cases d t z m)
  have HB := Lib.hid hbad
  clear h h' hbad
  go_enter Try.func28, Try.ntmps28
  go_wp2_with fail
  refine (checkGiven_any d t A A' n c n' c' z m w HI.out HM.out).mono ?_
  rintro e w1 ⟨rfl, hb1⟩
  have HB1 := Lib.hid hb1
  clear hb1
  by_cases h1 : gvE d t z m = 1
  · have HE : Hid (rpE d t z m i = 1) := Lib.hid (by unfold rpE; rw [if_pos (.inl h1)])
    rw [h1]
    clear HB HC h1
    go_wp2_with fail
    go_ret2
    exact ⟨by rw [HE.out]; rfl, HB1.out⟩
  · by_cases h2 : i < 0
    · have HE : Hid (rpE d t z m i = 1) := Lib.hid (by unfold rpE; rw [if_pos (.inr (.inl h2))])
      have q1 : decide (i < 0) = true := by simpa using h2
      rcases HC.out with e | e | e
      · rw [e]
        clear HB HC h1 e
        go_wp2_with fail
        go_ret2
        exact ⟨by rw [HE.out]; rfl, HB1.out⟩
      · exact absurd e h1
      · rw [e]
        clear HB HC h1 e
        go_wp2_with fail
        go_ret2
        exact ⟨by rw [HE.out]; rfl, HB1.out⟩
    · have q1 : decide (i < 0) = false := by simpa using h2
      by_cases h3 : t ≤ i
      · have HE : Hid (rpE d t z m i = 1) := Lib.hid (by unfold rpE; rw [if_pos (.inr (.inr h3))])
        have q2 : decide (t ≤ i) = true := by simpa using h3
        rcases HC.out with e | e | e
        · rw [e]
          clear HB HC h1 e
          go_wp2_with fail
          go_ret2
          exact ⟨by rw [HE.out]; rfl, HB1.out⟩
        · exact absurd e h1
        · rw [e]
          clear HB HC h1 e
          go_wp2_with fail
          go_ret2
          exact ⟨by rw [HE.out]; rfl, HB1.out⟩
      · have q2 : decide (t ≤ i) = false := by simpa using h3
        have HE : Hid (rpE d t z m i = gvE d t z m) := Lib.hid (by unfold rpE; rw [if_neg (by omega)])
        rcases HC.out with e | e | e
        · exact absurd (HE.out.trans e) HB.out
        · exact absurd e h1
        · have HE2 : Hid (rpE d t z m i = 10) := Lib.hid (HE.out.trans e)
          rw [e]
          clear HB HC h1 e HE
          go_wp2_with fail
          go_ret2
          exact ⟨by rw [HE2.out]; rfl, HB1.out⟩
end Go.Proofs.Ytoeeklkebcgmaaa
/- Contract of math/bits.OnesCount for small numbers. -/
namespace Go.Proofs.Ytoeeklkebcgmaaa
open Go.RowKit Gf

/-- The number of bits of a number below 256. -/
def popc (x : Nat) : Nat := (List.range 8).countP fun i => x.testBit i
def oc1 (x : Int) : Int := IntKind.u64.wrap (bits .and .u64 (x / 2) 6148914691236517205 + bits .and .u64 x 6148914691236517205)
def oc2 (y : Int) : Int := IntKind.u64.wrap (bits .and .u64 (y / 4) 3689348814741910323 + bits .and .u64 y 3689348814741910323)
def oc3 (y : Int) : Int := bits .and .u64 (IntKind.u64.wrap (y / 16 + y)) 1085102592571150095
def oc4 (k y : Int) : Int := IntKind.u64.wrap (y + y / k)
def oc (x : Int) : Int := bits .and .i64 (wrap64 (oc4 4294967296 (oc4 65536 (oc4 256 (oc3 (oc2 (oc1 x))))))) 127
theorem oc_small : ∀ x : Nat, x < 256 → oc (x : Int) = (popc x : Int) := by decide +kernel

set_option maxHeartbeats 4000000 in
theorem ones64 (x : Nat) (w : World) (hx : x < 256) :
    Calls Try.prog 57 #[.int .u64 (x : Int)] w fun e w' => e = .returned (.int .i64 (popc x : Int)) ∧ w = w' := by
  have H := Lib.hid (oc_small x hx)
  go_enter Try.func57, Try.ntmps57
  go_wp2_with fail
  go_ret
  refine ⟨?_, rfl⟩
  rw [← H.out]
  rfl

set_option maxHeartbeats 4000000 in
theorem ones_any (x : Nat) (w : World) (hx : x < 256) :
    Calls Try.prog 40 #[.int .u64 (x : Int)] w fun e w' => e = .returned (.int .i64 (popc x : Int)) ∧ w = w' := by
  go_enter Try.func40, Try.ntmps40
  go_wp2_with fail
  refine (ones64 x _ hx).mono ?_
  rintro e w' ⟨rfl, rfl⟩
  go_wp2_with fail
  go_ret
  exact ⟨rfl, rfl⟩
end Go.Proofs.Ytoeeklkebcgmaaa
/- Contracts of package reedsolomon: the closure inside fits. -/
namespace Go.Proofs.Ytoeeklkebcgmaaa
open Go.RowKit Gf

attribute [local go_sem] Gf.xor_bits Gf.and_bits Gf.or_bits Gf.ne_zero_iff Gf.eq_zero_iff Gf.eq_one_iff Gf.beq_bytes Gf.bne_bytes Gf.bv_toNat

set_option maxHeartbeats 4000000 in
theorem fits1_any (gs gf gp gl : Nat) (s a b : UInt8) (j p : Nat) (g1 o1 d c1 g2 o2 n c g3 o3 L c3 : Nat) (w : World)
    (hs : w.cell? ⟨gs, 0, none⟩ = some (B s)) (hfz : w.frozen? ⟨gs, 0, none⟩ = false) (hf : w.cell? ⟨gf, 0, none⟩ = some (.slice (some ⟨g1, o1, none⟩) d c1)) (hfj : w.cell? ⟨g1, o1 + j, none⟩ = some (B a))
    (hp : w.cell? ⟨gp, 0, none⟩ = some (.slice (some ⟨g2, o2, none⟩) n c)) (hpj : w.cell? ⟨g2, o2 + j, none⟩ = some (.slice (some ⟨g3, o3, none⟩) L c3)) (hl : w.cell? ⟨gl, 0, none⟩ = some (.int .i64 (p : Int)))
    (hb : w.cell? ⟨g3, o3 + p, none⟩ = some (B b)) (hj : j < d) (hjn : j < n) (hpL : p < L) :
    Calls Try.prog 59 #[.int .i64 (j : Int), .pointer (some ⟨gs, 0, none⟩), .pointer (some ⟨gf, 0, none⟩), .pointer (some ⟨gp, 0, none⟩), .pointer (some ⟨gl, 0, none⟩)] w
      fun e w' => e = .returned (.tuple #[]) ∧ w' = (w.setCell ⟨gs, 0, none⟩ (B (s ^^^ mul a b))).drew := by
  go_enter Try.func59, Try.ntmps59
  go_wp2_with fail
  refine Text.wp_region_text (fun _ => True) [(2, 4), (6, 4), (0, 1), (1, 1), (3, 4), (4, 1), (5, 1), (7, 4), (8, 1), (9, 1), (10, 4), (11, 1), (12, 1), (13, 4), (14, 2)] (by kernel_rfl) (by kernel_rfl) (fun _ _ _ _ _ h => h) (trivial) ?_
  iterate 2 (refine Text.purek rfl rfl (fun K hK => ⟨_, fun w' => by go_simp <;> rfl, ?_⟩); go_simp; refine hK _ ?_; clear hK K)
  iterate 2 (refine Text.readk rfl rfl (fun K hK => ⟨_, by go_simp <;> rfl, ?_⟩); go_simp; refine hK _ ?_; clear hK K)
  (refine Text.purek rfl rfl (fun K hK => ⟨_, fun w' => by go_simp <;> rfl, ?_⟩); go_simp; refine hK _ ?_; clear hK K)
  iterate 2 (refine Text.readk rfl rfl (fun K hK => ⟨_, by go_simp <;> rfl, ?_⟩); go_simp; refine hK _ ?_; clear hK K)
  (refine Text.purek rfl rfl (fun K hK => ⟨_, fun w' => by go_simp <;> rfl, ?_⟩); go_simp; refine hK _ ?_; clear hK K)
  iterate 2 (refine Text.readk rfl rfl (fun K hK => ⟨_, by go_simp <;> rfl, ?_⟩); go_simp; refine hK _ ?_; clear hK K)
  (refine Text.purek rfl rfl (fun K hK => ⟨_, fun w' => by go_simp <;> rfl, ?_⟩); go_simp; refine hK _ ?_; clear hK K)
  (refine Text.readk rfl rfl (fun K hK => ⟨_, by go_simp <;> rfl, ?_⟩); go_simp; refine hK _ ?_; clear hK K)
  refine Text.quietk rfl rfl (fun K hK => ?_)
  refine ⟨_, _, _, by go_simp <;> rfl, mul_any a b _, ?_⟩
  go_simp
  refine hK _ ?_
  clear hK K
  (refine Text.purek rfl rfl (fun K hK => ⟨_, fun w' => by go_simp <;> rfl, ?_⟩); go_simp; refine hK _ ?_; clear hK K)
  refine Text.eff rfl rfl (fun K hK => ?_)
  go_simp
  refine hK _ _ trivial ?_
  clear hK K
  refine Text.done ?_
  go_end0
  exact ⟨rfl, rfl⟩
end Go.Proofs.Ytoeeklkebcgmaaa
/- Contracts of package reedsolomon: fits. -/
namespace Go.Proofs.Ytoeeklkebcgmaaa
open Go.RowKit Gf

attribute [local go_sem] Gf.xor_bits Gf.and_bits Gf.or_bits Gf.ne_zero_iff Gf.eq_zero_iff Gf.eq_one_iff Gf.beq_bytes Gf.bne_bytes Gf.bv_toNat

/-- What fits adds up at a place. -/
def sumA (m : List (List UInt8)) (f : List UInt8) (p : Nat) (s : UInt8) : Nat → UInt8
  | 0 => s
  | j + 1 => sumA m f p s j ^^^ mul (gB f j) (gB (gR m j) p)
def fit1 (m F : List (List UInt8)) (d p i : Nat) : Bool := sumA m (gR F i) p (gB (gR m (d + i)) p) d == 0
def fitP (m F : List (List UInt8)) (d k p : Nat) : Bool := (List.range k).all (fit1 m F d p)
def fitB (m F : List (List UInt8)) (d k : Nat) (ps : List Nat) : Bool := ps.all (fitP m F d k)
theorem fitP_true {m F : List (List UInt8)} {d k p : Nat} (h : ∀ i, i < k → fit1 m F d p i = true) : fitP m F d k p = true := by
  simp only [fitP, List.all_eq_true, List.mem_range]; exact h
theorem fitP_false {m F : List (List UInt8)} {d k p i : Nat} (hi : i < k) (h : fit1 m F d p i = false) : fitP m F d k p = false := by
  rw [Bool.eq_false_iff]; intro h'; simp only [fitP, List.all_eq_true, List.mem_range] at h'; rw [h' i hi] at h; cases h
theorem fitB_true {m F : List (List UInt8)} {d k : Nat} {ps : List Nat} (h : ∀ i, i < ps.length → fitP m F d k (gN ps i) = true) : fitB m F d k ps = true := by
  simp only [fitB, List.all_eq_true]; intro p hp
  obtain ⟨i, hi, rfl⟩ := List.getElem_of_mem hp
  have := h i hi; rwa [gN_eq hi] at this
theorem fitB_false {m F : List (List UInt8)} {d k : Nat} {ps : List Nat} {i : Nat} (hi : i < ps.length) (h : fitP m F d k (gN ps i) = false) : fitB m F d k ps = false := by
  rw [Bool.eq_false_iff]; intro h'; simp only [fitB, List.all_eq_true] at h'; rw [gN_eq hi, h' _ (List.getElem_mem hi)] at h; cases h

set_option maxHeartbeats 4000000 in
theorem fits_any (A A' A'' : Option Addr) (n c k c' r c'' : Nat) (m F : List (List UInt8)) (ps : List Nat) (d L : Nat) (w : World) (h : MS w A n c m) (h' : MS w A' k c' F) (h'' : IS w A'' r c'' (ints ps)) (hr : Rect m L) (hL : L ≤ 65536) (hF : Rect F d) (hd : 0 < d) (hd8 : d ≤ 64) (hnk : d + k ≤ n) (hn64 : n ≤ 64) (hps : ∀ i, i < r → gN ps i < L) :
    Calls Try.prog 42 #[.slice A n c, .slice A' k c', .slice A'' r c''] w fun e w' => e = .returned (.bool (fitB m F d k ps)) ∧ Below w.heap.size w w' := by
  have HLm := Lib.hid h.1
  have HLF := Lib.hid h'.1
  have HLP : Hid (ps.length = r) := Lib.hid (by rw [← ints_length, h''.1])
  have HM := Lib.hid h
  have HF' := Lib.hid h'
  have HPI := Lib.hid h''
  have hnn : 0 < n := by omega
  have hrl := h''.len_le
  clear h h' h''
  go_enter Try.func42, Try.ntmps42
  go_wp2_with fail
  go_loopw [16] (fun i wr => ∃ j : Nat, j ≤ r ∧ i = .int .i64 (j : Int) ∧ Hid (∀ q, q < j → fitP m F d k (gN ps q) = true) ∧ Hid (Below w.heap.size w wr) ∧ Hid (Blk wr w.heap.size 30 #[.slice A n c])) (fun i _ => r - (intOf i).toNat)
  case atStart =>
    exact ⟨0, by omega, rfl, Lib.hid (fun q hq => absurd hq (by omega)), Lib.hid ((Below.refl _ _).alloc (Nat.le_refl _) _), Lib.hid (Blk.new w _ _)⟩
  case round =>
    obtain ⟨j, hj, rfl, hfit, hb, hbk⟩ := hrel
    by_cases hlt : j < r
    · obtain ⟨g, o, rfl, hc1⟩ := HPI.out.nat hb.out hlt
      obtain ⟨p, hp⟩ : ∃ p, p = gN ps j := ⟨_, rfl⟩
      rw [← hp] at hc1
      have hpL : p < L := by rw [hp]; exact hps j hlt
      have HPJ := Lib.hid hp
      clear hp
      go_wp2_with fail
      obtain ⟨gl, hgl⟩ : ∃ gl, gl = wr.heap.size := ⟨_, rfl⟩
      have HB0 : Hid (Below w.heap.size w (wr.alloc (.cells #[.int .i64 (p : Int)] 3))) := Lib.hid (hb.out.alloc hb.out.size _)
      have HK0 : Hid (Blk (wr.alloc (.cells #[.int .i64 (p : Int)] 3)) w.heap.size 30 #[.slice A n c]) := Lib.hid (hbk.out.alloc _)
      have HG0 : Hid (Blk (wr.alloc (.cells #[.int .i64 (p : Int)] 3)) gl 3 #[.int .i64 (p : Int)]) := Lib.hid (by rw [hgl]; exact Blk.new wr _ _)
      rw [← hgl]
      have HGL : Hid (w.heap.size ≤ gl) := Lib.hid (by rw [hgl]; exact hb.out.size)
      clear hb hbk hc1 hgl
      obtain ⟨wo, hwo⟩ : ∃ wo, wo = wr.alloc (.cells #[.int .i64 (p : Int)] 3) := ⟨_, rfl⟩
      rw [← hwo] at HB0 HK0 HG0 ⊢
      clear hwo wr
      go_loopw [22] (fun i wr => ∃ q : Nat, q ≤ k ∧ i = .int .i64 (q : Int) ∧ Hid (∀ i, i < q → fit1 m F d p i = true) ∧ Hid (Below w.heap.size w wr) ∧ Hid (Blk wr w.heap.size 30 #[.slice A n c]) ∧ Hid (Blk wr gl 3 #[.int .i64 (p : Int)])) (fun i _ => k - (intOf i).toNat)
      case atStart => exact ⟨0, by omega, rfl, Lib.hid (fun q hq => absurd hq (by omega)), HB0, HK0, HG0⟩
      case round =>
        obtain ⟨q, hq, rfl, hfq, hb, hbk, hbl⟩ := hrel
        by_cases hlq : q < k
        · obtain ⟨g1, o1, A1, n1, c1, rfl, hc1, hr1⟩ := HF'.out.at_ hb.out hlq
          obtain rfl : n1 = d := by rw [← hr1.1]; exact hF q (by rw [HLF.out]; exact hlq)
          obtain ⟨s, hs⟩ : ∃ s, s = n1 + q := ⟨_, rfl⟩
          obtain ⟨g2, o2, A2, n2, c2, rfl, hc2, hr2⟩ := HM.out.at_ hb.out (show s < n by omega)
          obtain rfl : n2 = L := by rw [← hr2.1]; exact hr s (by rw [HLm.out]; omega)
          obtain ⟨g3, o3, rfl, hc3⟩ := hr2.at_ (Below.refl _ _) hpL
          obtain ⟨g4, o4, rfl, _⟩ := hr1.at_ (Below.refl _ _) hd
          have hk0 : wr.cell? ⟨w.heap.size, 0, none⟩ = some (.slice (some ⟨g2, o2, none⟩) n c) := by rw [hbk.out.cell]; rfl
          have hl0 : wr.cell? ⟨gl, 0, none⟩ = some (.int .i64 (p : Int)) := by rw [hbl.out.cell]; rfl
          have hw : IntKind.i64.wrap ((n1 : Int) + (q : Int)) = (s : Int) := by rw [IntKind.wrap_i64]; omega
          have hsn : (s : Int) < (n : Int) := by omega
          have HR1 := Lib.hid hr1
          have HS := Lib.hid hs
          clear hr1 hr2 hs
          go_wp2_with fail
          obtain ⟨gf, hgf⟩ : ∃ gf, gf = wr.heap.size := ⟨_, rfl⟩
          obtain ⟨w5, hw5⟩ : ∃ w5, w5 = wr.alloc (.cells #[.slice (some ⟨g4, o4, none⟩) n1 c1] 22) := ⟨_, rfl⟩
          have hb5 : Below wr.heap.size wr w5 := by rw [hw5]; exact (Below.refl _ _).alloc (Nat.le_refl _) _
          have hf5 : Blk w5 gf 22 #[.slice (some ⟨g4, o4, none⟩) n1 c1] := by rw [hw5, hgf]; exact Blk.new wr _ _
          have k0 := cell_kept hb5 hk0
          have k1 : w5.cell? ⟨gf, 0, none⟩ = some (.slice (some ⟨g4, o4, none⟩) n1 c1) := by rw [hf5.cell]; rfl
          have k2 := cell_kept hb5 hc2
          have k3 := cell_kept hb5 hl0
          have k4 := cell_kept hb5 hc3
          have hs5 : w5.heap.size = gf + 1 := by rw [hw5, hgf]; simp
          rw [← hw5, ← hgf]
          have HB5 : Hid (Below w.heap.size w w5) := Lib.hid (below_then hb.out hb5)
          have HK5 : Hid (Blk w5 w.heap.size 30 #[.slice (some ⟨g2, o2, none⟩) n c]) := Lib.hid (hbk.out.kept hb5)
          have HL5 : Hid (Blk w5 gl 3 #[.int .i64 (p : Int)]) := Lib.hid (hbl.out.kept hb5)
          have HR5 : Hid (BS w5 (some ⟨g4, o4, none⟩) n1 c1 (gR F q)) := Lib.hid (HR1.out.kept hb5)
          have HF5 := Lib.hid hf5
          have HS5 := Lib.hid hs5
          clear hb hbk hbl hb5 hf5 hk0 hc2 hl0 hc3 hc1 hw5 hgf HR1 hs5
          refine Text.wp_region_text (fun w' => w'.cell? ⟨w.heap.size, 0, none⟩ = some (.slice (some ⟨g2, o2, none⟩) n c) ∧ w'.cell? ⟨gf, 0, none⟩ = some (.slice (some ⟨g4, o4, none⟩) n1 c1) ∧ w'.cell? ⟨g2, o2 + s, none⟩ = some (.slice (some ⟨g3, o3, none⟩) n2 c2) ∧ w'.cell? ⟨gl, 0, none⟩ = some (.int .i64 (p : Int)) ∧ w'.cell? ⟨g3, o3 + p, none⟩ = some (B (gB (gR m s) p))) [(3, 4), (0, 0), (1, 0), (2, 4), (4, 4), (5, 4), (6, 0), (7, 0), (8, 4), (9, 0), (10, 2), (11, 3)] (by kernel_rfl) (by kernel_rfl) (fun _ _ _ _ _ h => h) (⟨k0, k1, k2, k3, k4⟩) ?_
          (refine Text.purek rfl rfl (fun K hK => ⟨_, fun w' => by go_simp <;> rfl, ?_⟩); go_simp; refine hK _ ?_; clear hK K)
          iterate 2 (refine Text.heldk rfl rfl (fun K hK => ⟨_, fun w' hw' => by go_simp <;> rfl, ?_⟩); go_simp; refine hK _ ?_; clear hK K)
          iterate 3 (refine Text.purek rfl rfl (fun K hK => ⟨_, fun w' => by go_simp <;> rfl, ?_⟩); go_simp; refine hK _ ?_; clear hK K)
          iterate 2 (refine Text.heldk rfl rfl (fun K hK => ⟨_, fun w' hw' => by go_simp <;> rfl, ?_⟩); go_simp; refine hK _ ?_; clear hK K)
          (refine Text.purek rfl rfl (fun K hK => ⟨_, fun w' => by go_simp <;> rfl, ?_⟩); go_simp; refine hK _ ?_; clear hK K)
          (refine Text.heldk rfl rfl (fun K hK => ⟨_, fun w' hw' => by go_simp <;> rfl, ?_⟩); go_simp; refine hK _ ?_; clear hK K)
          refine Text.eff rfl rfl (fun K hK => ?_)
          go_simp
          obtain ⟨gs, hgs⟩ : ∃ gs, gs = w5.heap.size := ⟨_, rfl⟩
          obtain ⟨wA, hwA⟩ : ∃ wA, wA = (w5.alloc (.cells #[.int .u8 0] 5)).drew := ⟨_, rfl⟩
          have hbA : Below w5.heap.size w5 wA := by rw [hwA]; exact ((Below.refl _ _).alloc (Nat.le_refl _) _).drew
          have hfA : Blk wA gs 5 #[B 0] := by rw [hwA, hgs]; exact Blk.new w5 _ _
          rw [← hwA, ← hgs]
          refine hK _ _ ⟨cell_kept hbA k0, cell_kept hbA k1, cell_kept hbA k2, cell_kept hbA k3, cell_kept hbA k4⟩ ?_
          clear hK K
          have ks : wA.cell? ⟨gs, 0, none⟩ = some (B 0) := by rw [hfA.cell]; rfl
          have kz := hfA.frozen 0
          have hneq : gs = w5.heap.size := hgs
          have HGS := Lib.hid hneq
          have HBA := Lib.hid hbA
          have HFA := Lib.hid hfA
          clear hwA hgs hneq hbA hfA
          refine Text.last rfl rfl (fun K hK => ?_)
          go_simp
          refine hK _ _ ?_
          clear hK K
          refine Text.done ?_
          obtain ⟨wB, hwB⟩ : ∃ wB, wB = wA.setCell ⟨gs, 0, none⟩ (B (gB (gR m s) p)) := ⟨_, rfl⟩
          have hbB : Below w5.heap.size w5 wB := by rw [hwB]; exact HBA.out.setCell (by rw [HGS.out]; exact Nat.le_refl _) _
          have hfB : Blk wB gs 5 #[B (gB (gR m s) p)] := by rw [hwB]; exact HFA.out.set_ 0 _
          have k1 := cell_kept hbB k1
          have HBB := Lib.hid hbB
          have HFB := Lib.hid hfB
          rw [← hwB]
          clear hwB hbB hfB ks kz HBA HFA
          go_wp2_with fail
          go_loopw [40] (fun i wr => ∃ y : Nat, y ≤ n1 ∧ i = .int .i64 (y : Int) ∧ Hid (Below w5.heap.size w5 wr) ∧ Hid (Blk wr gs 5 #[B (sumA m (gR F q) p (gB (gR m s) p) y)])) (fun i _ => n1 - (intOf i).toNat)
          case atStart => exact ⟨0, by omega, rfl, HBB, HFB⟩
          case round =>
            obtain ⟨y, hy, rfl, hb7, hf7⟩ := hrel
            by_cases hly : y < n1
            · obtain ⟨g6, o6, A6, n6, c6, e6, hc6, hr6⟩ := HM.out.at_ (below_then HB5.out hb7.out) (show y < n by omega)
              injection e6 with e6
              injection e6 with e61 e62
              subst e61 e62
              obtain rfl : n6 = n2 := by rw [← hr6.1]; exact hr y (by rw [HLm.out]; omega)
              obtain ⟨g8, o8, rfl, hc8⟩ := hr6.at_ (Below.refl _ _) hpL
              obtain ⟨g9, o9, e9, hc9⟩ := HR5.out.at_ hb7.out hly
              injection e9 with e9
              injection e9 with e91 e92
              subst e91 e92
              obtain ⟨s7, hs7⟩ : ∃ s7, s7 = sumA m (gR F q) p (gB (gR m s) p) y := ⟨_, rfl⟩
              rw [← hs7] at hf7
              have x1 : wr.cell? ⟨gs, 0, none⟩ = some (B s7) := by rw [hf7.out.cell]; rfl
              have x2 := hf7.out.frozen 0
              have x3 : wr.cell? ⟨gf, 0, none⟩ = some (.slice (some ⟨g4, o4, none⟩) n1 c1) := by rw [(HF5.out.kept hb7.out).cell]; rfl
              have x4 : wr.cell? ⟨w.heap.size, 0, none⟩ = some (.slice (some ⟨g2, o2, none⟩) n c) := by rw [(HK5.out.kept hb7.out).cell]; rfl
              have x5 : wr.cell? ⟨gl, 0, none⟩ = some (.int .i64 (p : Int)) := by rw [(HL5.out.kept hb7.out).cell]; rfl
              have HC := Lib.hid (fits1_any gs gf w.heap.size gl s7 (gB (gR F q) y) (gB (gR m y) p) y p g4 o4 n1 c1 g2 o2 n c g8 o8 n6 c6 wr x1 x2 x3 hc9 x4 hc6 x5 hc8 hly (by omega) hpL)
              have HS7 : Hid (s7 ^^^ mul (gB (gR F q) y) (gB (gR m y) p) = sumA m (gR F q) p (gB (gR m s) p) (y + 1)) := Lib.hid (by rw [hs7]; rfl)
              clear hr6 hc6 hc8 hc9 x1 x2 x3 x4 x5 hs7
              go_wp2_with fail
              refine HC.out.mono ?_
              rintro e w8 ⟨rfl, rfl⟩
              have HB8 : Hid (Below w5.heap.size w5 (wr.setCell ⟨gs, 0, none⟩ (B (s7 ^^^ mul (gB (gR F q) y) (gB (gR m y) p)))).drew) := Lib.hid ((hb7.out.setCell (by rw [HGS.out]; exact Nat.le_refl _) _).drew)
              have HF8 : Hid (Blk (wr.setCell ⟨gs, 0, none⟩ (B (s7 ^^^ mul (gB (gR F q) y) (gB (gR m y) p)))).drew gs 5 #[B (s7 ^^^ mul (gB (gR F q) y) (gB (gR m y) p))]) := Lib.hid (hf7.out.set_ 0 _).drew
              clear HC hb7 hf7
              go_wp2_with fail
              go_roundw
              case rel => exact ⟨y + 1, by omega, by go_num, HB8, Lib.hid (by rw [← HS7.out]; exact HF8.out)⟩
              case measure => simp [intOf]; omega
            · obtain rfl : y = n1 := by omega
              obtain ⟨s7, hs7⟩ : ∃ s7, s7 = sumA m (gR F q) p (gB (gR m s) p) y := ⟨_, rfl⟩
              rw [← hs7] at hf7
              have x1 : wr.cell? ⟨gs, 0, none⟩ = some (B s7) := by rw [hf7.out.cell]; rfl
              have HF1 : Hid ((s7 == 0) = fit1 m F y p q) := Lib.hid (by rw [fit1, ← HS.out, ← hs7])
              clear hs7
              cases hz : s7 == 0 with
              | true =>
                have hz' : (s7 != 0) = false := by rw [bne, hz]; rfl
                have HF2 : Hid (fit1 m F y p q = true) := Lib.hid (by rw [← HF1.out, hz])
                have HB9 : Hid (Below w.heap.size w wr) := Lib.hid (below_then HB5.out hb7.out)
                have HK9 := Lib.hid (HK5.out.kept hb7.out)
                have HL9 := Lib.hid (HL5.out.kept hb7.out)
                clear hz
                go_wp2_with fail
                go_roundw
                case rel =>
                  refine ⟨q + 1, by omega, by go_num, Lib.hid (fun i hi => ?_), HB9, HK9, HL9⟩
                  by_cases e : i = q
                  · rw [e]; exact HF2.out
                  · exact hfq.out i (by omega)
                case measure => simp [intOf]; omega
              | false =>
                have hz' : (s7 != 0) = true := by rw [bne, hz]; rfl
                have HF2 : Hid (fit1 m F y p q = false) := Lib.hid (by rw [← HF1.out, hz])
                have HB9 : Hid (Below w.heap.size w wr) := Lib.hid (below_then HB5.out hb7.out)
                have HR : Hid (false = fitB m F y k ps) := Lib.hid (fitB_false (i := j) (by rw [HLP.out]; exact hlt) (by rw [← HPJ.out]; exact fitP_false hlq HF2.out)).symm
                clear hz
                go_wp2_with fail
                go_ret
                exact ⟨ret_bool HR.out, HB9.out⟩
        · obtain rfl : q = k := by omega
          have HN : Hid (fitP m F d q p = true) := Lib.hid (fitP_true hfq.out)
          have HFQ : Hid (∀ i, i < j + 1 → fitP m F d q (gN ps i) = true) := Lib.hid (fun i hi => by
            by_cases e : i = j
            · rw [e, ← HPJ.out]; exact HN.out
            · exact hfit.out i (by omega))
          go_wp2_with fail
          go_roundw
          case rel => exact ⟨j + 1, by omega, by go_num, HFQ, hb, hbk⟩
          case measure => simp [intOf]; omega
    · obtain rfl : j = r := by omega
      have HR : Hid (true = fitB m F d k ps) := Lib.hid (fitB_true (fun i hi => hfit.out i (by rw [HLP.out] at hi; exact hi))).symm
      go_wp2_with fail
      go_ret
      exact ⟨ret_bool HR.out, hb.out⟩
end Go.Proofs.Ytoeeklkebcgmaaa
/- A region that draws its order in which two effects may change places: a text that forks. Proved for any program. -/
namespace Go.Proofs.Ytoeeklkebcgmaaa
open Go

namespace Text
variable {P : Program} {ops : Array Oper} {Q : Exit → Act → World → Prop} {S : World → Prop}

/-- A text that forks: operations that change nothing, an effect, or two effects of which either may come first. -/
inductive BT where
  | leaf : BT
  | still : Nat → Nat → BT → BT
  | eff : Nat → BT → BT
  | br : Nat → BT → Nat → BT → BT

/-- What is still to come, with its kind. -/
def BT.rem : BT → List (Nat × Nat)
  | .leaf => []
  | .still i k t => (i, k) :: t.rem
  | .eff i t => (i, 2) :: t.rem
  | .br i t _ _ => (i, 2) :: t.rem

def BT.okB (ops : Array Oper) (T : List (List Nat)) : BT → Bool
  | .leaf => true
  | .still i k t => (decide (k ≤ 1) || decide (4 ≤ k)) && t.rem.all (pairB ops T (i, k)) && t.okB ops T
  | .eff i t => t.rem.all (fun y => (T.getD y.1 []).contains i && !(preds ops i).contains y.1) && t.okB ops T
  | .br i t j u => i != j && t.rem.all (fun y => !(preds ops i).contains y.1 && (y.1 == j || (T.getD y.1 []).contains i || (T.getD y.1 []).contains j)) &&
      t.rem.contains (j, 2) && u.rem.contains (i, 2) && !(u.rem.map (·.1)).contains j &&
      t.rem.all (fun y => y.1 == j || u.rem.contains y) && u.rem.all (fun y => y.1 == i || t.rem.contains y) &&
      decide (u.rem.map (·.1)).Nodup && t.okB ops T && u.okB ops T

def wpBT (P : Program) (ops : Array Oper) (Q : Exit → Act → World → Prop) (S : World → Prop) : BT → Act → World → Prop
  | .leaf, a, w => Q .normal a w
  | .still i k t, a, w => ∃ o v, ops[i]? = some o ∧ Gives P ops S w k o v a ∧ wpBT P ops Q S t (a.put o.dst v) w
  | .eff i t, a, w => wpOp P ops Q i (fun a' w' => S w' ∧ wpBT P ops Q S t a' w') a w
  | .br i t j u, a, w => wpOp P ops Q i (fun a' w' => S w' ∧ wpBT P ops Q S t a' w') a w ∧ wpOp P ops Q j (fun a' w' => S w' ∧ wpBT P ops Q S u a' w') a w

/-- What is left of the text where i came first. -/
def BT.choose (i : Nat) : BT → BT
  | .leaf => .leaf
  | .still j k t => if i = j then t else .still j k (t.choose i)
  | .eff _ t => t
  | .br j t _ u => if i = j then t else u

theorem fst_inj {L : List (Nat × Nat)} (h : (L.map (·.1)).Nodup) {x y : Nat × Nat} (hx : x ∈ L) (hy : y ∈ L) (e : x.1 = y.1) : x = y := by
  induction L with
  | nil => cases hx
  | cons z L ih =>
    rw [List.map_cons, List.nodup_cons] at h
    rcases List.mem_cons.1 hx with ex | hx' <;> rcases List.mem_cons.1 hy with ey | hy'
    · rw [ex, ey]
    · subst ex; exact absurd (List.mem_map.2 ⟨y, hy', e.symm⟩) h.1
    · subst ey; exact absurd (List.mem_map.2 ⟨x, hx', e⟩) h.1
    · exact ih h.2 hx' hy'
theorem nodup_of_fst {L : List (Nat × Nat)} (h : (L.map (·.1)).Nodup) : L.Nodup := List.Pairwise.of_map (·.1) (fun _ _ h e => h (by rw [e])) h

theorem choose_spec {T : List (List Nat)} (i k : Nat) : ∀ (t : BT), t.okB ops T = true → (t.rem.map (·.1)).Nodup → (i, k) ∈ t.rem → (∀ x ∈ t.rem, x.1 ≠ i → (T.getD i []).contains x.1 = false) →
    (∀ y, y ∈ (t.choose i).rem ↔ y ∈ t.rem ∧ y.1 ≠ i) ∧ (t.choose i).okB ops T = true ∧ ((t.choose i).rem.map (·.1)).Nodup := by
  intro t
  induction t with
  | leaf => intro _ _ hm; cases hm
  | still j kj t ih =>
    intro hok hnd hm hfr
    simp only [BT.okB, Bool.and_eq_true, List.all_eq_true] at hok
    have hnd' := hnd
    simp only [BT.rem, List.map_cons, List.nodup_cons] at hnd
    by_cases e : i = j
    · subst e
      simp only [BT.choose, if_true]
      refine ⟨fun y => ⟨fun hy => ⟨List.mem_cons_of_mem _ hy, fun e => hnd.1 (e ▸ List.mem_map_of_mem hy)⟩, fun ⟨hy, hne⟩ => ?_⟩, hok.2, hnd.2⟩
      rcases List.mem_cons.1 hy with rfl | hy
      · exact absurd rfl hne
      · exact hy
    · have hm' : (i, k) ∈ t.rem := by
        rcases List.mem_cons.1 hm with h | h
        · injection h with h _; exact absurd h e
        · exact h
      obtain ⟨h1, h2, h3⟩ := ih hok.2 hnd.2 hm' (fun x hx => hfr x (List.mem_cons_of_mem _ hx))
      simp only [BT.choose, if_neg e]
      refine ⟨fun y => ?_, ?_, ?_⟩
      · simp only [BT.rem, List.mem_cons, h1]
        constructor
        · rintro (rfl | ⟨h, h'⟩)
          · exact ⟨.inl rfl, fun e' => e e'.symm⟩
          · exact ⟨.inr h, h'⟩
        · rintro ⟨rfl | h, h'⟩
          · exact .inl rfl
          · exact .inr ⟨h, h'⟩
      · simp only [BT.okB, Bool.and_eq_true, List.all_eq_true]
        exact ⟨⟨hok.1.1, fun y hy => hok.1.2 y ((h1 y).1 hy).1⟩, h2⟩
      · simp only [BT.rem, List.map_cons, List.nodup_cons]
        refine ⟨fun hj => hnd.1 ?_, h3⟩
        obtain ⟨y, hy, hye⟩ := List.mem_map.1 hj
        exact hye ▸ List.mem_map_of_mem ((h1 y).1 hy).1
  | eff j t ih =>
    intro hok hnd hm hfr
    simp only [BT.okB, Bool.and_eq_true, List.all_eq_true] at hok
    simp only [BT.rem, List.map_cons, List.nodup_cons] at hnd
    have e : i = j := by
      rcases List.mem_cons.1 hm with h | h
      · injection h
      · by_cases e : i = j
        · exact e
        · have := hfr (j, 2) (by simp [BT.rem]) (fun e' => e e'.symm)
          rw [(hok.1 _ h).1] at this
          cases this
    subst e
    refine ⟨fun y => ⟨fun hy => ⟨List.mem_cons_of_mem _ hy, fun e => hnd.1 (e ▸ List.mem_map_of_mem hy)⟩, fun ⟨hy, hne⟩ => ?_⟩, hok.2, hnd.2⟩
    rcases List.mem_cons.1 hy with rfl | hy
    · exact absurd rfl hne
    · exact hy
  | br j t l u iht ihu =>
    intro hok hnd hm hfr
    simp only [BT.okB, Bool.and_eq_true, List.all_eq_true, decide_eq_true_eq, Bool.or_eq_true, beq_iff_eq, bne_iff_ne, List.contains_iff_mem, Bool.not_eq_true'] at hok
    obtain ⟨⟨⟨⟨⟨⟨⟨⟨⟨hjl, hall⟩, hlt⟩, hju⟩, hlu⟩, htu⟩, hut⟩, hndu⟩, hokt⟩, hoku⟩ := hok
    simp only [BT.rem, List.map_cons, List.nodup_cons] at hnd
    by_cases e : i = j
    · subst e
      simp only [BT.choose, if_true]
      refine ⟨fun y => ⟨fun hy => ⟨List.mem_cons_of_mem _ hy, fun e => hnd.1 (e ▸ List.mem_map_of_mem hy)⟩, fun ⟨hy, hne⟩ => ?_⟩, hokt, hnd.2⟩
      rcases List.mem_cons.1 hy with rfl | hy
      · exact absurd rfl hne
      · exact hy
    · have hm' : (i, k) ∈ t.rem := by
        rcases List.mem_cons.1 hm with h | h
        · injection h with h _; exact absurd h e
        · exact h
      have e2 : i = l := by
        by_cases e2 : i = l
        · exact e2
        · exfalso
          rcases (hall _ hm').2 with (h | h) | h
          · exact e2 h
          · have := hfr (j, 2) (by simp [BT.rem]) (fun e' => e e'.symm)
            rw [List.contains_iff_mem.2 h] at this; cases this
          · have := hfr (l, 2) (List.mem_cons_of_mem _ hlt) (fun e' => e2 e'.symm)
            rw [List.contains_iff_mem.2 h] at this; cases this
      subst e2
      simp only [BT.choose, if_neg e]
      refine ⟨fun y => ⟨fun hy => ?_, fun ⟨hy, hne⟩ => ?_⟩, hoku, hndu⟩
      · have hyi : y.1 ≠ i := fun e' => by
          have := List.mem_map_of_mem (f := (·.1)) hy
          rw [e', ← List.contains_iff_mem, hlu] at this; cases this
        rcases hut y hy with h | h
        · have : y = (j, 2) := fst_inj hndu hy hju h
          exact ⟨by rw [this]; simp [BT.rem], hyi⟩
        · exact ⟨List.mem_cons_of_mem _ h, hyi⟩
      · rcases List.mem_cons.1 hy with rfl | hy
        · exact hju
        · rcases htu y hy with h | h
          · exact absurd h hne
          · exact h

theorem front_bt {T : List (List Nat)} (i k : Nat) (hk : k ≤ 1 ∨ 4 ≤ k) (oi : Oper) (hoi : ops[i]? = some oi) (hsel : ∀ (j : Nat) (o : Oper) cs b, ops[j]? = some o → o.op ≠ .select cs b) (w : World) :
    ∀ (t : BT) (a : Act), t.okB ops T = true → (t.rem.map (·.1)).Nodup → (i, k) ∈ t.rem → (∀ x ∈ t.rem, x.1 ≠ i → (T.getD i []).contains x.1 = false) → wpBT P ops Q S t a w →
      ∃ v, Gives P ops S w k oi v a ∧ wpBT P ops Q S (t.choose i) (a.put oi.dst v) w := by
  intro t
  induction t with
  | leaf => intro _ _ _ hm; cases hm
  | still j kj t ih =>
    intro a hok hnd hm hfr h
    simp only [BT.okB, Bool.and_eq_true, List.all_eq_true] at hok
    have hnd0 := hnd
    simp only [BT.rem, List.map_cons, List.nodup_cons] at hnd
    obtain ⟨oj, vj, hoj, hy, hr⟩ := h
    by_cases e : i = j
    · subst e
      obtain rfl : k = kj := by
        have := fst_inj hnd0 hm (show (i, kj) ∈ BT.rem (.still i kj t) by simp [BT.rem]) rfl
        injection this
      obtain rfl : oj = oi := Option.some.inj (hoj.symm.trans hoi)
      simp only [BT.choose, if_true]
      exact ⟨vj, hy, hr⟩
    · have hm' : (i, k) ∈ t.rem := by
        rcases List.mem_cons.1 hm with h | h
        · injection h with h _; exact absurd h e
        · exact h
      have hp := hok.1.2 _ hm'
      simp only [pairB, Bool.and_eq_true, Bool.or_eq_true, hoi, hoj] at hp
      have hap : oj.apart ops oi = true := by
        rcases hp.2 with h | h
        · have := hfr (j, kj) (by simp [BT.rem]) (fun e' => e e'.symm)
          rw [h] at this; cases this
        · exact h.2
      obtain ⟨h1, h2, h3⟩ := Oper.apart_spec hap
      obtain ⟨v, y0, hr'⟩ := ih _ hok.2 hnd.2 hm' (fun x hx => hfr x (List.mem_cons_of_mem _ hx)) hr
      have hsi := fun cs b => hsel i oi cs b hoi
      simp only [BT.choose, if_neg e]
      refine ⟨v, y0.of_same (execOp_put oi hsi a oj.dst vj h1).symm (wanted_put oi a oj.dst vj h1).symm, oj, vj, hoj, hy.of_same (execOp_put oj (fun cs b => hsel j oj cs b hoj) a oi.dst v h3) (wanted_put oj a oi.dst v h3), ?_⟩
      rw [← Act.put_comm a vj v h2]
      exact hr'
  | eff j t ih =>
    intro a hok hnd hm hfr h
    exfalso
    simp only [BT.okB, Bool.and_eq_true, List.all_eq_true] at hok
    rcases List.mem_cons.1 hm with h | h
    · injection h with _ h; omega
    · have := hfr (j, 2) (by simp [BT.rem]) (fun e' => by
        simp only [BT.rem, List.map_cons, List.nodup_cons] at hnd
        exact hnd.1 (List.mem_map.2 ⟨_, h, e'.symm⟩))
      rw [(hok.1 _ h).1] at this
      cases this
  | br j t l u iht ihu =>
    intro a hok hnd hm hfr h
    exfalso
    simp only [BT.okB, Bool.and_eq_true, List.all_eq_true, decide_eq_true_eq, Bool.or_eq_true, beq_iff_eq, bne_iff_ne, List.contains_iff_mem, Bool.not_eq_true'] at hok
    obtain ⟨⟨⟨⟨⟨⟨⟨⟨⟨hjl, hall⟩, hlt⟩, hju⟩, hlu⟩, htu⟩, hut⟩, hndu⟩, hokt⟩, hoku⟩ := hok
    have hnd0 := hnd
    simp only [BT.rem, List.map_cons, List.nodup_cons] at hnd
    rcases List.mem_cons.1 hm with h | h
    · injection h with _ h; omega
    · have hij : i ≠ j := fun e => hnd.1 (List.mem_map.2 ⟨_, h, e⟩)
      have hil : i ≠ l := fun e => by
        have := fst_inj hnd.2 h hlt e
        injection this with _ this; omega
      rcases (hall _ h).2 with (h' | h') | h'
      · exact hil h'
      · have := hfr (j, 2) (by simp [BT.rem]) (fun e' => hij e'.symm)
        rw [List.contains_iff_mem.2 h'] at this; cases this
      · have := hfr (l, 2) (List.mem_cons_of_mem _ hlt) (fun e' => hil e'.symm)
        rw [List.contains_iff_mem.2 h'] at this; cases this

theorem front_be {T : List (List Nat)} (i : Nat) (oi : Oper) (hoi : ops[i]? = some oi) (hsel : ∀ (j : Nat) (o : Oper) cs b, ops[j]? = some o → o.op ≠ .select cs b)
    (hQ : ∀ c a w (d : Tmp) v, Q (.panic c) (a.put (some d) v) w → Q (.panic c) a w) (w : World) :
    ∀ (t : BT) (a : Act), t.okB ops T = true → (t.rem.map (·.1)).Nodup → (i, 2) ∈ t.rem → (∀ x ∈ t.rem, x.1 ≠ i → (T.getD i []).contains x.1 = false) → wpBT P ops Q S t a w →
      wpOp P ops Q i (fun a' w' => S w' ∧ wpBT P ops Q S (t.choose i) a' w') a w := by
  intro t
  induction t with
  | leaf => intro _ _ _ hm; cases hm
  | still j kj t ih =>
    intro a hok hnd hm hfr h
    simp only [BT.okB, Bool.and_eq_true, List.all_eq_true, Bool.or_eq_true, decide_eq_true_eq] at hok
    simp only [BT.rem, List.map_cons, List.nodup_cons] at hnd
    obtain ⟨oj, vj, hoj, hy, hr⟩ := h
    have e : i ≠ j := fun e => by
      rcases List.mem_cons.1 hm with h | h
      · injection h with _ h; omega
      · exact hnd.1 (List.mem_map.2 ⟨_, h, e⟩)
    have hm' : (i, 2) ∈ t.rem := by
      rcases List.mem_cons.1 hm with h | h
      · injection h with h _; exact absurd h e
      · exact h
    have hp := hok.1.2 _ hm'
    simp only [pairB, Bool.and_eq_true, Bool.or_eq_true, hoi, hoj] at hp
    have hsw : swapB kj 2 = true ∧ oj.apart ops oi = true := by
      rcases hp.2 with h | h
      · have := hfr (j, kj) (by simp [BT.rem]) (fun e' => e e'.symm)
        rw [h] at this; cases this
      · exact h
    have hap := hsw.2
    have hkj : kj = 0 ∨ 4 ≤ kj := by
      have := hsw.1
      simp only [swapB, Bool.or_eq_true, Bool.and_eq_true, decide_eq_true_eq, beq_iff_eq, bne_iff_ne] at this
      omega
    have hr' := ih _ hok.2 hnd.2 hm' (fun x hx => hfr x (List.mem_cons_of_mem _ hx)) hr
    have hq : ∀ c a w, Q (.panic c) (a.put oj.dst vj) w → Q (.panic c) a w := fun c a w hq => by
      cases hd : oj.dst with
      | none => rw [hd] at hq; exact hq
      | some d => rw [hd] at hq; exact hQ c a w d _ hq
    have hsj := fun cs b => hsel j oj cs b hoj
    have hsi := fun cs b => hsel i oi cs b hoi
    simp only [BT.choose, if_neg e]
    rcases hkj with rfl | h4
    · have h2 := wpOp_putIf (S := S) hoi hap hsj hsi hq (hy.1 rfl) hr'
      exact wpOp_mono (fun a' w' h3 => ⟨h3.2.1, oj, vj, hoj, ⟨fun _ => h3.1, fun e => absurd e (by omega), fun e => absurd e (by omega)⟩, h3.2.2⟩) h2
    · have h2 := wpOp_put hoi hap hsj hsi hq (hy.2.2 h4) hr'
      exact wpOp_mono (fun a' w' h3 => ⟨h3.2.1, oj, vj, hoj, ⟨fun e => absurd e (by omega), fun e => absurd e (by omega), fun _ => h3.1⟩, h3.2.2⟩) h2
  | eff j t ih =>
    intro a hok hnd hm hfr h
    simp only [BT.okB, Bool.and_eq_true, List.all_eq_true] at hok
    have e : i = j := by
      rcases List.mem_cons.1 hm with h | h
      · injection h
      · by_cases e : i = j
        · exact e
        · have := hfr (j, 2) (by simp [BT.rem]) (fun e' => e e'.symm)
          rw [(hok.1 _ h).1] at this
          cases this
    subst e
    exact h
  | br j t l u iht ihu =>
    intro a hok hnd hm hfr h
    simp only [BT.okB, Bool.and_eq_true, List.all_eq_true, decide_eq_true_eq, Bool.or_eq_true, beq_iff_eq, bne_iff_ne, List.contains_iff_mem, Bool.not_eq_true'] at hok
    obtain ⟨⟨⟨⟨⟨⟨⟨⟨⟨hjl, hall⟩, hlt⟩, hju⟩, hlu⟩, htu⟩, hut⟩, hndu⟩, hokt⟩, hoku⟩ := hok
    by_cases e : i = j
    · subst e
      simp only [BT.choose, if_true]
      exact h.1
    · have hm' : (i, 2) ∈ t.rem := by
        rcases List.mem_cons.1 hm with h | h
        · injection h with h _; exact absurd h e
        · exact h
      have e2 : i = l := by
        by_cases e2 : i = l
        · exact e2
        · exfalso
          rcases (hall _ hm').2 with (h | h) | h
          · exact e2 h
          · have := hfr (j, 2) (by simp [BT.rem]) (fun e' => e e'.symm)
            rw [List.contains_iff_mem.2 h] at this; cases this
          · have := hfr (l, 2) (List.mem_cons_of_mem _ hlt) (fun e' => e2 e'.symm)
            rw [List.contains_iff_mem.2 h] at this; cases this
      subst e2
      simp only [BT.choose, if_neg e]
      exact h.2

structure InvT (ops : Array Oper) (t : BT) (listed : Array Bool) : Prop where
  size : listed.size = ops.size
  mem : ∀ i, i ∈ t.rem.map (·.1) ↔ i < ops.size ∧ listed.getD i false = false
  nodup : (t.rem.map (·.1)).Nodup
  closed : Closed ops listed
  ok : t.okB ops (tbl ops ops.size) = true
  inside : ∀ x ∈ t.rem, ∀ p ∈ preds ops x.1, p < ops.size ∧ p ≠ x.1
  kinds : ∀ x ∈ t.rem, x.2 ≤ 2 ∨ 4 ≤ x.2

theorem InvT.head {t : BT} {listed : Array Bool} (h : InvT ops t listed) (x : Nat × Nat) (hx : x ∈ t.rem) (hp : ∀ y ∈ t.rem, y.1 ≠ x.1 → (preds ops x.1).contains y.1 = false) : x.1 ∈ Region.ready .any ops listed := by
  have hx' := (h.mem x.1).1 (List.mem_map_of_mem hx)
  obtain ⟨o, ho⟩ : ∃ o, ops[x.1]? = some o := ⟨_, Array.getElem?_eq_getElem hx'.1⟩
  refine mem_ready.2 ⟨by rw [getD_true_false (by rw [h.size]; exact hx'.1)]; exact hx'.2, o, ho, fun e he hb => ?_⟩
  have hpm := mem_preds ho he hb
  obtain ⟨h1, h2⟩ := h.inside x hx e.on hpm
  cases hl : listed.getD e.on false with
  | true => rfl
  | false =>
    obtain ⟨y, hy, hye⟩ := List.mem_map.1 ((h.mem e.on).2 ⟨h1, hl⟩)
    have := hp y hy (by show y.1 ≠ x.1; rw [hye]; exact h2)
    rw [hye, List.contains_iff_mem.2 hpm] at this
    cases this

theorem InvT.ready {t : BT} {listed : Array Bool} (h : InvT ops t listed) (hne : t.rem ≠ []) : Region.ready .any ops listed ≠ [] := by
  have hok := h.ok
  have : ∃ i, i ∈ Region.ready .any ops listed := by
    cases t with
    | leaf => exact absurd rfl hne
    | still i k t =>
      simp only [BT.okB, Bool.and_eq_true, List.all_eq_true] at hok
      refine ⟨i, h.head (i, k) (by simp [BT.rem]) (fun y hy hy' => ?_)⟩
      rcases List.mem_cons.1 hy with rfl | hy
      · exact absurd rfl hy'
      · have := hok.1.2 y hy
        simp only [pairB, Bool.and_eq_true, Bool.not_eq_true'] at this
        exact this.1.1
    | eff i t =>
      simp only [BT.okB, Bool.and_eq_true, List.all_eq_true, Bool.not_eq_true'] at hok
      refine ⟨i, h.head (i, 2) (by simp [BT.rem]) (fun y hy hy' => ?_)⟩
      rcases List.mem_cons.1 hy with rfl | hy
      · exact absurd rfl hy'
      · exact (hok.1 y hy).2
    | br i t j u =>
      simp only [BT.okB, Bool.and_eq_true, List.all_eq_true, Bool.not_eq_true'] at hok
      refine ⟨i, h.head (i, 2) (by simp [BT.rem]) (fun y hy hy' => ?_)⟩
      rcases List.mem_cons.1 hy with rfl | hy
      · exact absurd rfl hy'
      · exact (hok.1.1.1.1.1.1.1.1.2 y hy).1
  obtain ⟨i, hi⟩ := this
  intro e
  rw [e] at hi
  cases hi

theorem InvT.front {t : BT} {listed : Array Bool} {i : Nat} (h : InvT ops t listed) (hr : i ∈ Region.ready .any ops listed) (hil : i < ops.size) :
    Closed ops (listed.setIfInBounds i true) ∧ ∀ x ∈ t.rem, x.1 ≠ i → ((tbl ops ops.size).getD i []).contains x.1 = false := by
  have hc2 : Closed ops (listed.setIfInBounds i true) := by
    intro j p hp hl
    by_cases e : i = j
    · subst e
      obtain ⟨_, o, ho, hall⟩ := mem_ready.1 hr
      obtain ⟨o', ed, ho', he, hb, rfl⟩ := of_preds hp
      obtain rfl : o = o' := Option.some.inj (ho.symm.trans ho')
      exact getD_set_true (hall ed he hb)
    · rw [getD_set_ne false e] at hl
      exact getD_set_true (h.closed j p hp hl)
  refine ⟨hc2, fun x hx hne => ?_⟩
  rw [Bool.eq_false_iff]
  intro hmem
  have hl := tbl_sound hc2 _ i x.1 (List.contains_iff_mem.1 hmem) (by simp [h.size, hil])
  have hxl := (h.mem x.1).1 (List.mem_map_of_mem hx)
  rw [getD_set_ne false (fun e => hne e.symm), hxl.2] at hl
  cases hl

theorem InvT.step {t : BT} {listed : Array Bool} {i k : Nat} (h : InvT ops t listed) (hm : (i, k) ∈ t.rem) (hr : i ∈ Region.ready .any ops listed) : InvT ops (t.choose i) (listed.setIfInBounds i true) ∧ (t.choose i).rem.length + 1 = t.rem.length := by
  have hil : i < ops.size := ((h.mem i).1 (List.mem_map.2 ⟨_, hm, rfl⟩)).1
  obtain ⟨hc2, hfr⟩ := h.front hr hil
  obtain ⟨h1, h2, h3⟩ := choose_spec i k t h.ok h.nodup hm hfr
  refine ⟨⟨by simp [h.size], fun j => ?_, h3, hc2, h2, fun x hx => h.inside x ((h1 x).1 hx).1, fun x hx => h.kinds x ((h1 x).1 hx).1⟩, ?_⟩
  · constructor
    · intro hj
      obtain ⟨y, hy, rfl⟩ := List.mem_map.1 hj
      obtain ⟨hy1, hy2⟩ := (h1 y).1 hy
      have := (h.mem y.1).1 (List.mem_map_of_mem hy1)
      exact ⟨this.1, by rw [getD_set_ne false (fun e => hy2 e.symm)]; exact this.2⟩
    · rintro ⟨hj, hl⟩
      have hne : j ≠ i := fun e => by
        subst e
        simp [h.size, hj] at hl
      rw [getD_set_ne false (fun e => hne e.symm)] at hl
      obtain ⟨y, hy, rfl⟩ := List.mem_map.1 ((h.mem j).2 ⟨hj, hl⟩)
      exact List.mem_map_of_mem ((h1 y).2 ⟨hy, hne⟩)
  · have hp : t.rem.Perm ((i, k) :: (t.choose i).rem) := by
      have n1 : t.rem.Nodup := nodup_of_fst h.nodup
      have n2 : (t.choose i).rem.Nodup := nodup_of_fst h3
      refine (List.perm_ext_iff_of_nodup n1 (List.nodup_cons.2 ⟨fun hh => ((h1 _).1 hh).2 rfl, n2⟩)).2 (fun y => ?_)
      simp only [List.mem_cons, h1]
      constructor
      · intro hy
        by_cases e : y.1 = i
        · exact .inl (fst_inj h.nodup hy hm e)
        · exact .inr ⟨hy, e⟩
      · rintro (rfl | ⟨hy, _⟩)
        · exact hm
        · exact hy
    have := hp.length_eq
    simp only [List.length_cons] at this
    omega

theorem wpAny_of_bt (hsel : ∀ (j : Nat) (o : Oper) cs b, ops[j]? = some o → o.op ≠ .select cs b) (hQ : ∀ c a w (d : Tmp) v, Q (.panic c) (a.put (some d) v) w → Q (.panic c) a w) :
    ∀ (n : Nat) (t : BT) (listed : Array Bool) (a : Act) (w : World), t.rem.length = n → InvT ops t listed → S w → wpBT P ops Q S t a w → wpAny P .any ops Q n listed a w
  | 0, t, listed, a, w, hn, inv, _, h => by
    have hnil := List.eq_nil_of_length_eq_zero hn
    have hleaf : t = .leaf := by cases t <;> simp [BT.rem] at hnil; rfl
    subst hleaf
    refine ⟨?_, h⟩
    cases hrd : Region.ready .any ops listed with
    | nil => rfl
    | cons j js =>
      have hj : j ∈ Region.ready .any ops listed := by rw [hrd]; simp
      obtain ⟨h1, o, ho, _⟩ := mem_ready.1 hj
      have hlt : j < ops.size := (Array.getElem?_eq_some_iff.1 ho).1
      have := (inv.mem j).2 ⟨hlt, by rw [← getD_true_false (by rw [inv.size]; exact hlt)]; exact h1⟩
      simp [BT.rem] at this
  | n + 1, t, listed, a, w, hn, inv, hS, h => by
    refine ⟨fun h0 => absurd h0 (inv.ready (fun e => by rw [e] at hn; cases hn)), fun i hi => ?_⟩
    obtain ⟨h1, oi, hoi, _⟩ := mem_ready.1 hi
    have hlt : i < ops.size := (Array.getElem?_eq_some_iff.1 hoi).1
    obtain ⟨⟨i', k⟩, hx, rfl⟩ := List.mem_map.1 ((inv.mem i).2 ⟨hlt, by rw [← getD_true_false (by rw [inv.size]; exact hlt)]; exact h1⟩)
    obtain ⟨inv', hlen⟩ := inv.step hx hi
    have hfr := (inv.front hi hlt).2
    have go : wpOp P ops Q i' (fun a' w' => S w' ∧ wpBT P ops Q S (t.choose i') a' w') a w := by
      by_cases hk : k ≤ 1 ∨ 4 ≤ k
      · obtain ⟨v, y0, hr⟩ := front_bt i' k hk oi hoi hsel w t a inv.ok inv.nodup hx hfr h
        rcases hk with hk | hk
        · rcases Nat.le_one_iff_eq_zero_or_eq_one.1 hk with rfl | rfl
          · exact (y0.1 rfl).wpOp hoi hS ⟨hS, hr⟩
          · exact wpOp_of_yieldsAt hoi (y0.2.1 rfl) ⟨hS, hr⟩
        · exact (y0.2.2 hk).wpOp hoi ⟨hS, hr⟩
      · have hk2 : k = 2 := by
          have := inv.kinds _ hx
          simp only at this
          omega
        subst hk2
        exact front_be i' oi hoi hsel hQ w t a inv.ok inv.nodup hx hfr h
    exact wpOp_mono (fun a' w' h' => wpAny_of_bt hsel hQ n (t.choose i') _ a' w' (by omega) inv' h'.1 h'.2) go

def btB (ops : Array Oper) (t : BT) : Bool :=
  Region.noSelect ops && (List.range ops.size).all (fun i => (t.rem.map (·.1)).contains i) && t.rem.all (fun x => decide (x.1 < ops.size) && (decide (x.2 ≤ 2) || decide (4 ≤ x.2)) && (preds ops x.1).all (fun p => decide (p < ops.size) && p != x.1)) &&
    decide (t.rem.map (·.1)).Nodup && decide (t.rem.length = ops.size) && t.okB ops (tbl ops ops.size)

/-- THE RULE. -/
theorem wp_region_bt {id : Nat} {a : Act} {w : World} (S : World → Prop) (t : BT) (hm : P.follows .mixedOrders = true) (hB : btB ops t = true)
    (hQ : ∀ c a w (d : Tmp) v, Q (.panic c) (a.put (some d) v) w → Q (.panic c) a w) (hS : S w.drew) (h : wpBT P ops Q S t a w.drew) : (Code.region id ops true).wp P Q a w := by
  simp only [btB, Bool.and_eq_true, decide_eq_true_eq] at hB
  obtain ⟨⟨⟨⟨⟨h1, h2⟩, h3⟩, h4⟩, hlen⟩, h5⟩ := hB
  refine wp_region_any hm ?_
  refine wpAny_of_bt (S := S) (Region.noSelect_spec h1) hQ ops.size t _ a _ hlen ⟨by simp, fun i => ?_, h4, fun j p hp hl => ?_, h5, fun x hx p hp => ?_, fun x hx => ?_⟩ hS h
  · rw [getD_replicate_false]
    constructor
    · intro hi
      obtain ⟨x, hx, rfl⟩ := List.mem_map.1 hi
      have := List.all_eq_true.1 h3 x hx
      simp only [Bool.and_eq_true, decide_eq_true_eq] at this
      exact ⟨this.1.1, rfl⟩
    · rintro ⟨hi, _⟩
      have := List.all_eq_true.1 h2 i (List.mem_range.2 hi)
      simpa using this
  · rw [getD_replicate_false] at hl; cases hl
  · have := List.all_eq_true.1 h3 x hx
    simp only [Bool.and_eq_true] at this
    have h6 := List.all_eq_true.1 this.2 p hp
    simp only [Bool.and_eq_true, decide_eq_true_eq] at h6
    exact ⟨h6.1, by simpa using h6.2⟩
  · have := List.all_eq_true.1 h3 x hx
    simp only [Bool.and_eq_true, Bool.or_eq_true, decide_eq_true_eq] at this
    exact this.1.2

section bsteps
variable {a : Act} {w : World} {t u : BT} {i j : Nat}
theorem bpurek {o : Oper} (ho : ops[i]? = some o) (hw : Region.wanted o (yielded ops a.tmps) = true)
    (h : ∀ K : Act → Prop, (∀ a, wpBT P ops Q S t a w → K a) → ∃ v, (∀ w, (execOp a.eval o).run P w = .ok (.value v) w) ∧ K (a.put o.dst v)) : wpBT P ops Q S (.still i 4 t) a w := by
  obtain ⟨v, h1, h2⟩ := h _ (fun _ h => h)
  exact ⟨o, v, ho, ⟨fun e => absurd e (by decide), fun e => absurd e (by decide), fun _ => .inl ⟨hw, h1⟩⟩, h2⟩
theorem bheldk {o : Oper} (ho : ops[i]? = some o) (hw : Region.wanted o (yielded ops a.tmps) = true)
    (h : ∀ K : Act → Prop, (∀ a, wpBT P ops Q S t a w → K a) → ∃ v, (∀ w, S w → (execOp a.eval o).run P w = .ok (.value v) w) ∧ K (a.put o.dst v)) : wpBT P ops Q S (.still i 0 t) a w := by
  obtain ⟨v, h1, h2⟩ := h _ (fun _ h => h)
  exact ⟨o, v, ho, ⟨fun _ => .inl ⟨hw, h1⟩, fun e => absurd e (by decide), fun e => absurd e (by decide)⟩, h2⟩
theorem breadk {o : Oper} (ho : ops[i]? = some o) (hw : Region.wanted o (yielded ops a.tmps) = true)
    (h : ∀ K : Act → Prop, (∀ a, wpBT P ops Q S t a w → K a) → ∃ v, (execOp a.eval o).run P w = .ok (.value v) w ∧ K (a.put o.dst v)) : wpBT P ops Q S (.still i 1 t) a w := by
  obtain ⟨v, h1, h2⟩ := h _ (fun _ h => h)
  exact ⟨o, v, ho, ⟨fun e => absurd e (by decide), fun _ => .inl ⟨hw, .inl h1⟩, fun e => absurd e (by decide)⟩, h2⟩
theorem beff {o : Oper} (ho : ops[i]? = some o) (hg : o.guard = none) (h : ∀ K : Act → World → Prop, (∀ a w, S w → wpBT P ops Q S t a w → K a w) → o.wp P a w K NoQ) : wpBT P ops Q S (.eff i t) a w := by
  show wpOp P ops Q i (fun a' w' => S w' ∧ wpBT P ops Q S t a' w') a w
  unfold wpOp
  simp only [ho]
  rw [if_pos (by simp [Region.wanted, hg])]
  exact .inl (wp_of_noQ (h _ fun _ _ h1 h2 => ⟨h1, h2⟩))
theorem bfork (h1 : wpBT P ops Q S (.eff i t) a w) (h2 : wpBT P ops Q S (.eff j u) a w) : wpBT P ops Q S (.br i t j u) a w := ⟨h1, h2⟩
theorem bdone (h : Q .normal a w) : wpBT P ops Q S .leaf a w := h
end bsteps
attribute [irreducible] wpBT
end Text
end Go.Proofs.Ytoeeklkebcgmaaa
/- A guarded effect in a text whose guard is met. -/
namespace Go.Proofs.Ytoeeklkebcgmaaa
open Go
namespace Text
variable {P : Program} {ops : Array Oper} {Q : Exit → Act → World → Prop} {S : World → Prop} {a : Act} {w : World} {r : List (Nat × Nat)} {i : Nat}
theorem effw {o : Oper} (ho : ops[i]? = some o) (hw : Region.wanted o (yielded ops a.tmps) = true) (h : ∀ K : Act → World → Prop, (∀ a w, S w → wpText P ops Q S r a w → K a w) → o.wp P a w K NoQ) : wpText P ops Q S ((i, 2) :: r) a w := by
  have key : wpOp P ops Q i (fun a' w' => S w' ∧ wpText P ops Q S r a' w') a w := by
    unfold wpOp
    simp only [ho]
    rw [if_pos hw]
    exact .inl (wp_of_noQ (h _ fun _ _ h1 h2 => ⟨h1, h2⟩))
  with_unfolding_all exact key
theorem lastw {o : Oper} (ho : ops[i]? = some o) (hw : Region.wanted o (yielded ops a.tmps) = true) (h : ∀ K : Act → World → Prop, (∀ a w, wpText P ops Q S r a w → K a w) → o.wp P a w K NoQ) : wpText P ops Q S ((i, 3) :: r) a w := by
  have key : wpOp P ops Q i (fun a' w' => wpText P ops Q S r a' w') a w := by
    unfold wpOp
    simp only [ho]
    rw [if_pos hw]
    exact .inl (wp_of_noQ (h _ fun _ _ h2 => h2))
  with_unfolding_all exact key
end Text
end Go.Proofs.Ytoeeklkebcgmaaa
