/- Contracts of package reedsolomon: Valid, newTable, of. -/
import Derived.Test.YtoeeklkebcgmaaaInv
namespace Go.Proofs.Ytoeeklkebcgmaaa
open Go.RowKit Gf

attribute [local go_sem] Gf.xor_bits Gf.and_bits Gf.or_bits Gf.ne_zero_iff Gf.eq_zero_iff Gf.eq_one_iff Gf.beq_bytes Gf.bne_bytes Gf.bv_toNat

/-- Valid, as a Bool that the walk does not take apart. -/
def vldB (d t : Int) : Bool := decide (1 ≤ d ∧ d ≤ 8 ∧ d ≤ t ∧ t ≤ 16)
theorem vld_iff {d t : Int} : vldB d t = true ↔ 1 ≤ d ∧ d ≤ 8 ∧ d ≤ t ∧ t ≤ 16 := by simp [vldB]
theorem vld_false {d t : Int} (h : ¬ (1 ≤ d ∧ d ≤ 8 ∧ d ≤ t ∧ t ≤ 16)) : vldB d t = false := by simp [vldB]; omega
theorem ret_bool {a b : Bool} (h : a = b) : Ending.returned (.bool a) = .returned (.bool b) := by rw [h]

set_option maxHeartbeats 1000000 in
theorem rsvalid_any (d t : Int) (w : World) :
    Calls Try.prog 11 #[.int .i64 d, .int .i64 t] w fun e w' => e = .returned (.bool (vldB d t)) ∧ w = w' := by
  by_cases h1 : 1 ≤ d
  · by_cases h2 : d ≤ 8
    · by_cases h3 : d ≤ t
      · by_cases h4 : t ≤ 16
        · have e1 : decide (1 ≤ d) = true := by simpa using h1
          have e2 : decide (d ≤ 8) = true := by simpa using h2
          have e3 : decide (d ≤ t) = true := by simpa using h3
          have e4 : decide (t ≤ 16) = true := by simpa using h4
          have HV := Lib.hid (vld_iff.2 ⟨h1, h2, h3, h4⟩)
          go_enter Try.func11, Try.ntmps11
          go_wp2
          go_ret
          exact ⟨ret_bool (by rw [HV.out]), rfl⟩
        · have e1 : decide (1 ≤ d) = true := by simpa using h1
          have e2 : decide (d ≤ 8) = true := by simpa using h2
          have e3 : decide (d ≤ t) = true := by simpa using h3
          have e4 : decide (t ≤ 16) = false := by simpa using h4
          have HV := Lib.hid (vld_false (d := d) (t := t) (by omega))
          go_enter Try.func11, Try.ntmps11
          go_wp2
          go_ret
          exact ⟨ret_bool (by rw [HV.out]), rfl⟩
      · have e1 : decide (1 ≤ d) = true := by simpa using h1
        have e2 : decide (d ≤ 8) = true := by simpa using h2
        have e3 : decide (d ≤ t) = false := by simpa using h3
        have HV := Lib.hid (vld_false (d := d) (t := t) (by omega))
        go_enter Try.func11, Try.ntmps11
        go_wp2
        go_ret
        exact ⟨ret_bool (by rw [HV.out]), rfl⟩
    · have e1 : decide (1 ≤ d) = true := by simpa using h1
      have e2 : decide (d ≤ 8) = false := by simpa using h2
      have HV := Lib.hid (vld_false (d := d) (t := t) (by omega))
      go_enter Try.func11, Try.ntmps11
      go_wp2
      go_ret
      exact ⟨ret_bool (by rw [HV.out]), rfl⟩
  · have e1 : decide (1 ≤ d) = false := by simpa using h1
    have HV := Lib.hid (vld_false (d := d) (t := t) (by omega))
    go_enter Try.func11, Try.ntmps11
    go_wp2
    go_ret
    exact ⟨ret_bool (by rw [HV.out]), rfl⟩

theorem inv_int (x : Int) (w : World) (hx : 0 < x) (hx' : x < 256) :
    Calls Try.prog 52 #[.int .u8 x] w fun e w' => e = .returned (.tuple #[B (inv (UInt8.ofNat x.toNat)), .int .i64 0]) ∧ w = w' := by
  have hne : (UInt8.ofNat x.toNat == 0) = false := by
    rw [beq_eq_false_iff_ne]
    intro e
    have h1 := bv_ofNat x (by omega) hx'
    rw [e] at h1
    have : bv 0 = 0 := rfl
    omega
  have h := inv_any (UInt8.ofNat x.toNat) hne w
  rw [B, bv_ofNat x (by omega) hx'] at h
  exact h

/-- The coefficient of piece i for block c. -/
def coef (d i c : Nat) : UInt8 := if d ≤ i then inv (UInt8.ofNat (i ^^^ c)) else if i = c then 1 else 0
/-- The table after r rows and k columns of row r. -/
def tcell (d r k j : Nat) : UInt8 := if j % 8 < d ∧ (j / 8 < r ∨ (j / 8 = r ∧ j % 8 < k)) then coef d (j / 8) (j % 8) else 0
def tlist (d r k : Nat) : List UInt8 := (List.range 128).map (tcell d r k)
theorem tlist_length (d r k : Nat) : (tlist d r k).length = 128 := by simp [tlist]
theorem tlist_get (d r k j : Nat) (h : j < 128) : gB (tlist d r k) j = tcell d r k j := by
  rw [gB_eq (by rw [tlist_length]; exact h)]; simp [tlist]
def tblA (d r k : Nat) : Array Value := #[.int .i64 (d : Int)] ++ row (tlist d r k)
theorem tblA_size (d r k : Nat) : (tblA d r k).size = 129 := by simp [tblA, row_size, tlist_length]
theorem tblA_get (d r k j : Nat) (h : j < 128) : (tblA d r k)[j + 1]? = some (B (tcell d r k j)) := by
  rw [tblA, Array.getElem?_append_right (by simp), show j + 1 - (#[Value.int .i64 (d : Int)] : Array Value).size = j by simp, row_get _ _ (by rw [tlist_length]; exact h), tlist_get _ _ _ _ h]
theorem tblA_zero (d r k : Nat) : (tblA d r k)[0]? = some (.int .i64 (d : Int)) := by rw [tblA, Array.getElem?_append_left (by simp)]; rfl
theorem tblA_set (d r k : Nat) (_hr : r < 16) (hk : k < 8) (hkd : k < d) : (tblA d r k).setIfInBounds (1 + r * 8 + k) (B (coef d r k)) = tblA d r (k + 1) := by
  have e : tblA d r (k + 1) = #[.int .i64 (d : Int)] ++ row ((tlist d r k).set (r * 8 + k) (coef d r k)) := by
    have : tlist d r (k + 1) = (tlist d r k).set (r * 8 + k) (coef d r k) := by
      apply List.ext_getElem (by simp [tlist])
      intro j h1 h2
      rw [List.getElem_set]
      simp only [tlist, List.getElem_map, List.getElem_range]
      by_cases e : r * 8 + k = j
      · rw [if_pos e]
        subst e
        unfold tcell
        rw [if_pos (by omega), show (r * 8 + k) / 8 = r by omega, show (r * 8 + k) % 8 = k by omega]
      · rw [if_neg e]
        unfold tcell
        by_cases e2 : j % 8 < d ∧ (j / 8 < r ∨ (j / 8 = r ∧ j % 8 < k))
        · rw [if_pos e2, if_pos (by omega)]
        · rw [if_neg e2, if_neg (by omega)]
    rw [tblA, this]
  rw [e, tblA, show 1 + r * 8 + k = r * 8 + k + 1 by omega, Array.setIfInBounds_append_right (by simp), ← row_set]
  simp
theorem tlist_next (d r : Nat) (_hd : d ≤ 8) : tlist d r d = tlist d (r + 1) 0 := by
  apply List.ext_getElem (by simp [tlist])
  intro j h1 h2
  simp only [tlist, List.getElem_map, List.getElem_range, tcell]
  by_cases e2 : j % 8 < d ∧ (j / 8 < r ∨ (j / 8 = r ∧ j % 8 < d))
  · rw [if_pos e2, if_pos (by omega)]
  · rw [if_neg e2, if_neg (by omega)]
theorem tlist_start (d : Nat) : tlist d 0 0 = zeros 128 := by
  apply List.ext_getElem (by simp [tlist, zeros])
  intro j h1 h2
  simp only [tlist, List.getElem_map, List.getElem_range, tcell, zeros, List.getElem_replicate]
  rw [if_neg (by omega)]
/-- A zero need not be stored. -/
theorem tblA_skip (d r k : Nat) (_hr : r < 16) (hk : k < 8) (hkd : k < d) (h0 : coef d r k = 0) : tblA d r k = tblA d r (k + 1) := by
  unfold tblA
  congr 2
  apply List.ext_getElem (by simp [tlist])
  intro j h1 h2
  simp only [tlist, List.getElem_map, List.getElem_range, tcell]
  by_cases e : r * 8 + k = j
  · subst e
    rw [if_neg (by omega), if_pos (by omega), show (r * 8 + k) / 8 = r by omega, show (r * 8 + k) % 8 = k by omega, h0]
  · by_cases e2 : j % 8 < d ∧ (j / 8 < r ∨ (j / 8 = r ∧ j % 8 < k))
    · rw [if_pos e2, if_pos (by omega)]
    · rw [if_neg e2, if_neg (by omega)]

theorem zero_table : Try.zeroCells80 = #[.int .i64 0] ++ row (zeros 128) := by kernel_rfl
theorem tbl_start (d : Nat) : tblA d 0 0 = Try.zeroCells80.setIfInBounds 0 (.int .i64 (d : Int)) := by
  unfold tblA
  rw [tlist_start, zero_table, Array.setIfInBounds_append_left (by simp)]
  rfl

def TabI (d r k g : Nat) (w wr : World) : Prop := Blk wr g 80 (tblA d r k) ∧ Below w.heap.size w wr

theorem xor_lt16 {a b : Nat} (ha : a < 16) (hb : b < 16) : a ^^^ b < 16 := Nat.xor_lt_two_pow (n := 4) ha hb
theorem xor_pos16 : ∀ a, a < 16 → ∀ b, b < 16 → a ≠ b → 0 < a ^^^ b := by decide
theorem wrap8_nat (n : Nat) (h : n < 256) : IntKind.u8.wrap (n : Int) = (n : Int) := by
  show (n : Int) % 256 = n
  omega
theorem ofInt_i64 (a : Nat) (ha : a < 9223372036854775808) : (BitVec.ofInt 64 (a : Int)).toNat = a := by
  rw [BitVec.ofInt_natCast, BitVec.toNat_ofNat]; exact Nat.mod_eq_of_lt (by omega)
theorem i64_xor_nat (a b : Nat) (ha : a < 9223372036854775808) (hb : b < 9223372036854775808) : bits .xor .i64 (a : Int) (b : Int) = ((a ^^^ b : Nat) : Int) := by
  have hx : a ^^^ b < 2 ^ 63 := Nat.xor_lt_two_pow (by omega) (by omega)
  show IntKind.i64.wrap ((BitVec.ofInt 64 (a : Int) ^^^ BitVec.ofInt 64 (b : Int)).toNat : Int) = _
  rw [BitVec.toNat_xor, ofInt_i64 a ha, ofInt_i64 b hb, IntKind.wrap_i64]
  omega

set_option maxRecDepth 100000 in
set_option maxHeartbeats 4000000 in
theorem newTable_any (d : Nat) (w : World) (hd : d ≤ 8) :
    Calls Try.prog 33 #[.int .i64 (d : Int)] w fun e w' => e = .returned (.pointer (some ⟨w.heap.size, 0, none⟩)) ∧ TabI d 16 0 w.heap.size w w' := by
  go_enter Try.func33, Try.ntmps33
  go_wp2
  go_loopw [9] (fun i wr => ∃ r : Nat, r ≤ 16 ∧ i = .int .i64 (r : Int) ∧ TabI d r 0 w.heap.size w wr) (fun i _ => 16 - (intOf i).toNat)
  case atStart =>
    refine ⟨0, by omega, rfl, ?_, (Below.refl _ _).alloc (Nat.le_refl _) _⟩
    rw [tbl_start]
    exact Blk.new w _ _
  case round =>
    obtain ⟨r, hr, rfl, h1, hb⟩ := hrel
    by_cases hlt : r < 16
    · have hr16' : (r : Int) < 16 := by omega
      have HI : Hid (TabI d r 0 w.heap.size w wr) := Lib.hid ⟨h1, hb⟩
      clear h1 hb
      go_wp2
      obtain ⟨wo, rfl⟩ : ∃ wo : World, wo = wr := ⟨_, rfl⟩
      go_loopw [13] (fun i wr => ∃ k : Nat, k ≤ d ∧ i = .int .i64 (k : Int) ∧ TabI d r k w.heap.size w wr) (fun i _ => d - (intOf i).toNat)
      case atStart => exact ⟨0, by omega, rfl, HI.out⟩
      case round =>
        obtain ⟨k, hk, rfl, h2, hb2⟩ := hrel
        by_cases hlt2 : k < d
        · have hc : wr.cell? ⟨w.heap.size, 1 + r * 8 + k, none⟩ = some (B (tcell d r k (r * 8 + k))) := by
            rw [h2.cell, show 1 + r * 8 + k = r * 8 + k + 1 by omega, tblA_get _ _ _ _ (by omega)]
          have hf := h2.frozen (1 + r * 8 + k)
          have hk8 : k < 8 := by omega
          have hk8' : (k : Int) < 8 := by omega
          by_cases hdr : d ≤ r
          · have hx := i64_xor_nat r k (by omega) (by omega)
            have hx16 := xor_lt16 hlt (show k < 16 by omega)
            have hx0 : 0 < r ^^^ k := xor_pos16 r hlt k (by omega) (by omega)
            have hw8 := wrap8_nat (r ^^^ k) (by omega)
            have HS := Lib.hid (tblA_set d r k hlt (by omega) hlt2)
            have HCO : Hid (coef d r k = inv (UInt8.ofNat (r ^^^ k))) := Lib.hid (by unfold coef; rw [if_pos hdr])
            have H2 := Lib.hid h2
            have HB2 := Lib.hid hb2
            clear h2 hb2
            go_wp2
            refine Text.wp_region_text (fun _ => True) [(0, 4), (1, 4), (2, 4), (3, 4), (4, 4), (5, 4), (6, 4), (11, 4), (12, 4), (13, 4), (7, 1), (8, 4), (9, 4), (10, 4), (14, 4), (15, 2)] (by kernel_rfl) (by kernel_rfl) (fun _ _ _ _ _ h => h) (trivial) ?_
            iterate 10 (refine Text.purek rfl rfl (fun K hK => ⟨_, fun w' => by go_simp <;> rfl, ?_⟩); go_simp; refine hK _ ?_; clear hK K)
            refine Text.quietk rfl rfl (fun K hK => ?_)
            refine ⟨_, _, _, by go_simp <;> rfl, inv_int ((r ^^^ k : Nat) : Int) _ (by omega) (by omega), ?_⟩
            rw [Int.toNat_natCast, ← HCO.out]
            go_simp
            refine hK _ ?_
            clear hK K
            iterate 4 (refine Text.purek rfl rfl (fun K hK => ⟨_, fun w' => by go_simp <;> rfl, ?_⟩); go_simp; refine hK _ ?_; clear hK K)
            refine Text.eff rfl rfl (fun K hK => ?_)
            go_simp
            refine hK _ _ trivial ?_
            clear hK K
            refine Text.done ?_
            have HR : Hid (TabI d r (k + 1) w.heap.size w (wr.setCell ⟨w.heap.size, 1 + r * 8 + k, none⟩ (B (coef d r k)))) := by
              have h3 := H2.out.set_ (1 + r * 8 + k) (B (coef d r k))
              rw [HS.out] at h3
              exact Lib.hid ⟨h3, HB2.out.setCell (p := ⟨w.heap.size, 1 + r * 8 + k, none⟩) (Nat.le_refl _) _⟩
            go_wp2
            go_roundw
            case rel => exact ⟨k + 1, by omega, by go_num, HR.out.1.drew, HR.out.2.drew⟩
            case measure => simp [intOf]; omega
          · by_cases hrk : r = k
            · have HS := Lib.hid (tblA_set d r k hlt (by omega) hlt2)
              have HCO : Hid (coef d r k = 1) := Lib.hid (by unfold coef; rw [if_neg hdr, if_pos hrk])
              have HR : Hid (TabI d r (k + 1) w.heap.size w (wr.setCell ⟨w.heap.size, 1 + r * 8 + k, none⟩ (.int .u8 1))) := by
                have h3 := h2.set_ (1 + r * 8 + k) (B (coef d r k))
                rw [HS.out, HCO.out] at h3
                exact Lib.hid ⟨h3, hb2.setCell (p := ⟨w.heap.size, 1 + r * 8 + k, none⟩) (Nat.le_refl _) _⟩
              have hq : ((r : Int) == (k : Int)) = true := by simp [hrk]
              have HRK := Lib.hid hrk
              clear h2 hb2 hrk
              go_wp2
              go_roundw
              case rel => exact ⟨k + 1, by omega, by go_num, HR.out⟩
              case measure => simp [intOf]; omega
            · have HR : Hid (TabI d r (k + 1) w.heap.size w wr) := by
                refine Lib.hid ⟨?_, hb2⟩
                rw [← tblA_skip d r k hlt (by omega) hlt2 (by unfold coef; rw [if_neg hdr, if_neg hrk])]
                exact h2
              have hq : ((r : Int) == (k : Int)) = false := by simp; omega
              clear h2 hb2
              go_wp2
              go_roundw
              case rel => exact ⟨k + 1, by omega, by go_num, HR.out⟩
              case measure => simp [intOf]; omega
        · obtain rfl : k = d := by omega
          have HR : Hid (TabI k (r + 1) 0 w.heap.size w wr) := by
            refine Lib.hid ⟨?_, hb2⟩
            unfold tblA at h2 ⊢
            rw [← tlist_next k r hd]
            exact h2
          clear h2 hb2
          go_wp2
          go_roundw
          case rel => exact ⟨r + 1, by omega, by go_num, HR.out⟩
          case measure => simp [intOf]; omega
    · obtain rfl : r = 16 := by omega
      have HR : Hid (TabI d 16 0 w.heap.size w wr) := Lib.hid ⟨h1, hb⟩
      clear h1 hb
      go_wp2
      go_ret
      exact ⟨rfl, HR.out⟩
end Go.Proofs.Ytoeeklkebcgmaaa
