/- Several texts in one: Rf1, Rf2, Rf3, Rf4, Awk0, Awk, Rf5. -/
import Derived.Test.YtoeeklkebcgmaaaA2
import Derived.Test.YtoeeklkebcgmaaaA3
/- Contracts of the references kinkeepref04: Mul, Inv. -/
namespace Go.Proofs.Ytoeeklkebcgmaaa
open Go.RowKit Gf

attribute [local go_sem] Gf.eq_one_iff

theorem xor_i64 (a b : UInt8) : bits .xor .i64 (bv a) (bv b) = bv (a ^^^ b) := by
  unfold bv; rw [i64_xor_nat _ _ (by have := a.toNat_lt; omega) (by have := b.toNat_lt; omega), UInt8.toNat_xor]
theorem dbl_hi : ∀ u : UInt8, 255 < bv u * 2 → bits .xor .i64 (bv u * 2) 285 = bv (dbl u) := all_u8 (by decide +kernel)
theorem dbl_lo : ∀ u : UInt8, bv u * 2 ≤ 255 → bv u * 2 = bv (dbl u) := all_u8 (by decide +kernel)
def shn (b : UInt8) (k : Nat) : UInt8 := UInt8.ofNat (b.toNat / 2 ^ k)
theorem shn_bv (b : UInt8) (k : Nat) : bv b / 2 ^ k = bv (shn b k) := by
  unfold bv shn
  have h : b.toNat / 2 ^ k < 256 := Nat.lt_of_le_of_lt (Nat.div_le_self _ _) b.toNat_lt
  have : (UInt8.ofNat (b.toNat / 2 ^ k)).toNat = b.toNat / 2 ^ k := by simp; omega
  rw [this]; push_cast; rfl
theorem shn_succ (b : UInt8) (k : Nat) : shn b (k + 1) = shn b k >>> 1 := by
  apply UInt8.toNat_inj.1
  rw [shr1_half]
  unfold shn
  have h : b.toNat / 2 ^ k < 256 := Nat.lt_of_le_of_lt (Nat.div_le_self _ _) b.toNat_lt
  have h' : b.toNat / 2 ^ (k + 1) < 256 := Nat.lt_of_le_of_lt (Nat.div_le_self _ _) b.toNat_lt
  have e1 : (UInt8.ofNat (b.toNat / 2 ^ k)).toNat = b.toNat / 2 ^ k := by simp; omega
  have e2 : (UInt8.ofNat (b.toNat / 2 ^ (k + 1))).toNat = b.toNat / 2 ^ (k + 1) := by simp; omega
  rw [e1, e2, Nat.pow_succ, Nat.div_div_eq_div_mul]

set_option maxRecDepth 100000 in
set_option maxHeartbeats 400000 in
theorem rmul_any (a b : UInt8) (w : World) :
    Calls Try.prog 50 #[B a, B b] w fun e w' => e = .returned (B (mul a b)) ∧ w = w' := by
  have ha := bv_lo a
  have ha' := bv_hi a
  go_enter Try.func50, Try.ntmps50
  go_wp2
  go_loop [5, 6, 7] (fun x s i => ∃ (u v : UInt8) (k : Nat), x = .int .i64 (bv u) ∧ s = .int .i64 (bv v) ∧ i = .int .i64 (k : Int) ∧ k ≤ 8 ∧ Hid (v ^^^ mulBits (8 - k) u (shn b k) = mul a b)) (fun _ _ i => 8 - (intOf i).toNat)
  case atStart => exact ⟨a, 0, 0, rfl, rfl, rfl, by omega, Lib.hid (by rw [mul_bits]; simp [shn])⟩
  case round =>
    obtain ⟨u, v, k, rfl, rfl, rfl, hk, hm⟩ := hrel
    by_cases hlt : k < 8
    · have hu := bv_lo u
      have hu' := bv_hi u
      have HS : Hid (∀ v', (v' = v ^^^ if shn b k &&& 1 = 1 then u else 0) → v' ^^^ mulBits (8 - (k + 1)) (dbl u) (shn b (k + 1)) = mul a b) := by
        refine Lib.hid fun v' hv' => ?_
        have := hm.out
        rw [show 8 - k = (8 - (k + 1)) + 1 by omega, mulBits] at this
        rw [hv', shn_succ, xor_assoc]
        exact this
      have HX : Hid (bits .xor .i64 (bv v) (bv u) = bv (v ^^^ u)) := Lib.hid (xor_i64 v u)
      have HD1 := Lib.hid (dbl_hi u)
      have HD2 := Lib.hid (dbl_lo u)
      have HB : Hid (bits .and .u8 (bv b / 2 ^ k) 1 = bv (shn b k &&& 1)) := Lib.hid (by rw [shn_bv, and1])
      clear hm
      by_cases h1 : shn b k &&& 1 = 1
      · have hb : (bits .and .u8 (bv b / 2 ^ k) 1 == 1) = true := by rw [HB.out, h1]; rfl
        have HS' := Lib.hid (HS.out (v ^^^ u) (by rw [if_pos h1]))
        clear HS h1
        go_wp2
        · go_round
          case rel => exact ⟨dbl u, v ^^^ u, k + 1, by rw [HD1.out (by assumption)], by rw [HX.out], by go_num, by omega, HS'⟩
          case measure => simp [intOf]; omega
        · go_round
          case rel => exact ⟨dbl u, v ^^^ u, k + 1, by rw [HD2.out (by assumption)], by rw [HX.out], by go_num, by omega, HS'⟩
          case measure => simp [intOf]; omega
      · have hb : (bits .and .u8 (bv b / 2 ^ k) 1 == 1) = false := by
          rw [HB.out, eq_one_iff]; simpa using h1
        have HS' := Lib.hid (HS.out v (by rw [if_neg h1]; simp))
        clear HS h1
        go_wp2
        · go_round
          case rel => exact ⟨dbl u, v, k + 1, by rw [HD1.out (by assumption)], rfl, by go_num, by omega, HS'⟩
          case measure => simp [intOf]; omega
        · go_round
          case rel => exact ⟨dbl u, v, k + 1, by rw [HD2.out (by assumption)], rfl, by go_num, by omega, HS'⟩
          case measure => simp [intOf]; omega
    · obtain rfl : k = 8 := by omega
      have HV : Hid (v = mul a b) := Lib.hid (by have := hm.out; simpa [mulBits] using this)
      have hv := bv_lo v
      have hv' := bv_hi v
      go_wp2
      go_ret
      refine ⟨?_, rfl⟩
      rw [← HV.out]
      rfl

/-- The first of 1.. whose product is 1. -/
theorem rinv_first (a : UInt8) (k : Nat) (h : mul a (UInt8.ofNat k) = 1) : inv a = UInt8.ofNat k := by
  have ha : a ≠ 0 := by intro e; rw [e, zero_mul] at h; exact absurd h (by decide)
  have h1 := mul_inv a ha
  calc inv a = mul (inv a) (mul a (UInt8.ofNat k)) := by rw [h, mul_one]
    _ = mul (mul a (inv a)) (UInt8.ofNat k) := by rw [← mul_assoc, mul_comm (inv a) a]
    _ = UInt8.ofNat k := by rw [h1, one_mul]
theorem inv_ne_zero (a : UInt8) (ha : a ≠ 0) : inv a ≠ 0 := fun e => by
  have := mul_inv a ha; rw [e, mul_zero] at this; exact absurd this (by decide)
theorem inv_none (a : UInt8) (h : ∀ k, 1 ≤ k → k < 256 → mul a (UInt8.ofNat k) ≠ 1) : a = 0 := by
  apply Classical.byContradiction; intro ha
  have h1 := mul_inv a ha
  have h2 := inv_ne_zero a ha
  have h3 : UInt8.ofNat (inv a).toNat = inv a := by simp
  refine h (inv a).toNat ?_ (inv a).toNat_lt (by rw [h3]; exact h1)
  rcases Nat.eq_zero_or_pos (inv a).toNat with e | e
  · exact absurd (UInt8.toNat_inj.1 (by rw [e]; rfl)) h2
  · exact e
theorem inv_zero_eq : inv 0 = 0 := by decide +kernel

theorem rmul_nat (a : UInt8) (k : Nat) (w : World) (hk : k < 256) :
    Calls Try.prog 50 #[B a, .int .u8 (k : Int)] w fun e w' => e = .returned (B (mul a (UInt8.ofNat k))) ∧ w = w' := by
  have h : (k : Int) = bv (UInt8.ofNat k) := by unfold bv; simp; omega
  rw [h]
  exact rmul_any _ _ _

def NoInv (a : UInt8) (k : Nat) : Prop := ∀ j, 1 ≤ j → j < k → mul a (UInt8.ofNat j) ≠ 1
set_option maxHeartbeats 400000 in
theorem rinv_any (a : UInt8) (w : World) :
    Calls Try.prog 35 #[B a] w fun e w' => e = .returned (B (inv a)) ∧ w = w' := by
  go_enter Try.func35, Try.ntmps35
  go_wp2
  go_loop [3] (fun i => ∃ k : Nat, 1 ≤ k ∧ k ≤ 256 ∧ i = .int .i64 (k : Int) ∧ NoInv a k) (fun i => 256 - (intOf i).toNat)
  case atStart => exact ⟨1, by omega, by omega, rfl, fun j h1 h2 => absurd h2 (by omega)⟩
  case round =>
    obtain ⟨k, h1, hk, rfl, hm⟩ := hrel
    by_cases hlt : k < 256
    · have HK : Hid ((k : Int) = bv (UInt8.ofNat k)) := Lib.hid (by unfold bv; simp; omega)
      obtain ⟨p, hp⟩ : ∃ p, p = mul a (UInt8.ofNat k) := ⟨_, rfl⟩
      have HC : Hid (Calls Try.prog 50 #[B a, .int .u8 (k : Int)] w fun e w' => e = .returned (B p) ∧ w = w') := Lib.hid (by rw [hp]; exact rmul_nat a k w hlt)
      have hlt' : (k : Int) < 256 := by omega
      have HLT := Lib.hid hlt
      clear hlt hk
      cases hb : p == 1 with
      | true =>
        have HR : Hid (inv a = UInt8.ofNat k) := Lib.hid (rinv_first a k (by rw [← hp]; simpa using hb))
        clear hp hm
        go_wp2_with (go_at_call 50; refine HC.out.mono ?_; rintro e w' ⟨rfl, rfl⟩)
        go_ret
        refine ⟨?_, rfl⟩
        rw [HR.out]
        show Ending.returned (.int .u8 (k : Int)) = _
        rw [HK.out]
      | false =>
        have HM : NoInv a (k + 1) := (fun j h2 h3 => by
          by_cases e : j = k
          · rw [e, ← hp]; simpa using hb
          · exact hm j h2 (by omega))
        clear hp hm
        go_wp2_with (go_at_call 50; refine HC.out.mono ?_; rintro e w' ⟨rfl, rfl⟩)
        go_round
        case rel => exact ⟨k + 1, by omega, by have := HLT.out; omega, by go_num, HM⟩
        case measure => simp [intOf]; omega
    · obtain rfl : k = 256 := by omega
      have HZ : Hid (inv a = 0) := Lib.hid (by rw [inv_none a (fun j h2 h3 => hm j h2 h3)]; exact inv_zero_eq)
      go_wp2
      go_ret
      refine ⟨?_, rfl⟩
      rw [HZ.out]
      rfl
end Go.Proofs.Ytoeeklkebcgmaaa
/- Contracts of the references kinkeepref08: Valid, Row. -/
namespace Go.Proofs.Ytoeeklkebcgmaaa
open Go.RowKit Gf

set_option maxHeartbeats 1000000 in
theorem rvalid_any (d t : Int) (w : World) :
    Calls Try.prog 12 #[.int .i64 d, .int .i64 t] w fun e w' => e = .returned (.bool (vldB d t)) ∧ w = w' := by
  by_cases h1 : 1 ≤ d
  · by_cases h2 : d ≤ 8
    · by_cases h3 : d ≤ t
      · by_cases h4 : t ≤ 16
        · have e1 : decide (1 ≤ d) = true := by simpa using h1
          have e2 : decide (d ≤ 8) = true := by simpa using h2
          have e3 : decide (d ≤ t) = true := by simpa using h3
          have e4 : decide (t ≤ 16) = true := by simpa using h4
          have HV := Lib.hid (vld_iff.2 ⟨h1, h2, h3, h4⟩)
          go_enter Try.func12, Try.ntmps12
          go_wp2
          go_ret
          exact ⟨ret_bool (by rw [HV.out]), rfl⟩
        · have e1 : decide (1 ≤ d) = true := by simpa using h1
          have e2 : decide (d ≤ 8) = true := by simpa using h2
          have e3 : decide (d ≤ t) = true := by simpa using h3
          have e4 : decide (t ≤ 16) = false := by simpa using h4
          have HV := Lib.hid (vld_false (d := d) (t := t) (by omega))
          go_enter Try.func12, Try.ntmps12
          go_wp2
          go_ret
          exact ⟨ret_bool (by rw [HV.out]), rfl⟩
      · have e1 : decide (1 ≤ d) = true := by simpa using h1
        have e2 : decide (d ≤ 8) = true := by simpa using h2
        have e3 : decide (d ≤ t) = false := by simpa using h3
        have HV := Lib.hid (vld_false (d := d) (t := t) (by omega))
        go_enter Try.func12, Try.ntmps12
        go_wp2
        go_ret
        exact ⟨ret_bool (by rw [HV.out]), rfl⟩
    · have e1 : decide (1 ≤ d) = true := by simpa using h1
      have e2 : decide (d ≤ 8) = false := by simpa using h2
      have HV := Lib.hid (vld_false (d := d) (t := t) (by omega))
      go_enter Try.func12, Try.ntmps12
      go_wp2
      go_ret
      exact ⟨ret_bool (by rw [HV.out]), rfl⟩
  · have e1 : decide (1 ≤ d) = false := by simpa using h1
    have HV := Lib.hid (vld_false (d := d) (t := t) (by omega))
    go_enter Try.func12, Try.ntmps12
    go_wp2
    go_ret
    exact ⟨ret_bool (by rw [HV.out]), rfl⟩

/-- The row after k columns. -/
def rpart (d i k : Nat) : List UInt8 := (List.range d).map fun j => if j < k then coef d i j else 0
theorem rpart_length (d i k : Nat) : (rpart d i k).length = d := by simp [rpart]
theorem rpart_zero (d i : Nat) : rpart d i 0 = zeros d := by
  unfold rpart zeros
  apply List.ext_getElem (by simp)
  intro j h1 h2; simp
theorem rpart_all (d i : Nat) : rpart d i d = crw d i := by
  unfold rpart crw
  apply List.map_congr_left
  intro j hj; rw [if_pos (List.mem_range.1 hj)]
theorem rpart_set (d i k : Nat) (_h : k < d) : (rpart d i k).set k (coef d i k) = rpart d i (k + 1) := by
  apply List.ext_getElem (by simp [rpart])
  intro j h1 h2
  rw [List.getElem_set]
  simp only [rpart, List.getElem_map, List.getElem_range]
  by_cases e : k = j
  · subst e; simp
  · rw [if_neg e]
    by_cases h3 : j < k
    · rw [if_pos h3, if_pos (by omega)]
    · rw [if_neg h3, if_neg (by omega)]
theorem rpart_same (d i k : Nat) (h : coef d i k = 0) : rpart d i k = rpart d i (k + 1) := by
  apply List.ext_getElem (by simp [rpart])
  intro j h1 h2
  simp only [rpart, List.getElem_map, List.getElem_range]
  by_cases h3 : j < k
  · rw [if_pos h3, if_pos (by omega)]
  · rw [if_neg h3]
    by_cases e : j = k
    · subst e; rw [if_pos (by omega), h]
    · rw [if_neg (by omega)]
theorem rinv_nat (k : Nat) (w : World) (hk : k < 256) :
    Calls Try.prog 35 #[.int .u8 (k : Int)] w fun e w' => e = .returned (B (inv (UInt8.ofNat k))) ∧ w = w' := by
  have h : (k : Int) = bv (UInt8.ofNat k) := by unfold bv; simp; omega
  rw [h]
  exact rinv_any _ _

def RowRet (d i : Nat) (w : World) (e : Ending) (w' : World) : Prop :=
  e = .returned (.slice (some ⟨w.heap.size, 0, none⟩) d d) ∧ Blk w' w.heap.size 5 (row (crw d i)) ∧ Below w.heap.size w w'
def RowI (d i k : Nat) (w wr : World) : Prop := Blk wr w.heap.size 5 (row (rpart d i k)) ∧ Below w.heap.size w wr

set_option maxHeartbeats 400000 in
theorem rrow_any (d i : Nat) (w : World) (hd8 : d ≤ 8) (hi : i < 16) :
    Calls Try.prog 14 #[.int .i64 (d : Int), .int .i64 (i : Int)] w (RowRet d i w) := by
  have hmk := make_bytes d (by omega)
  have hi16 : (i : Int) < 16 := by omega
  go_enter Try.func14, Try.ntmps14
  go_wp2_with fail
  go_loopw [6] (fun c wr => ∃ k : Nat, k ≤ d ∧ c = .int .i64 (k : Int) ∧ Hid (RowI d i k w wr)) (fun c _ => d - (intOf c).toNat)
  case atStart =>
    refine ⟨0, by omega, rfl, Lib.hid ⟨?_, (Below.refl _ _).alloc (Nat.le_refl _) _⟩⟩
    rw [rpart_zero]
    exact Blk.new w _ _
  case round =>
    obtain ⟨k, hk, rfl, hI⟩ := hrel
    by_cases hlt : k < d
    · have c1 : wr.cell? ⟨w.heap.size, k, none⟩ = some (B (gB (rpart d i k) k)) := by
        rw [hI.out.1.cell]; exact row_get _ _ (by rw [rpart_length]; exact hlt)
      have f1 := hI.out.1.frozen k
      clear hmk
      have HSET : Hid (∀ x, x = coef d i k → RowI d i (k + 1) w (wr.setCell ⟨w.heap.size, k, none⟩ (B x))) := Lib.hid (fun x hx => by
        have := hI.out.1.set_ k (B x)
        rw [row_set, hx, rpart_set _ _ _ hlt] at this
        rw [hx]
        exact ⟨this, hI.out.2.setCell (Nat.le_refl _) _⟩)
      by_cases hdi : d ≤ i
      · have q1 : decide ((i : Int) < (d : Int)) = false := by simp; omega
        have q2 : decide ((d : Int) ≤ (i : Int)) = true := by simp; omega
        have hx := i64_xor_nat i k (by omega) (by omega)
        have hx16 := xor_lt16 hi (show k < 16 by omega)
        have hw8 := wrap8_nat (i ^^^ k) (by omega)
        obtain ⟨x, hxe⟩ : ∃ x, x = inv (UInt8.ofNat (i ^^^ k)) := ⟨_, rfl⟩
        have HR := Lib.hid (HSET.out x (by rw [hxe, coef, if_pos hdi]))
        have HC : Hid (Calls Try.prog 35 #[.int .u8 ((i ^^^ k : Nat) : Int)] wr fun e w' => e = .returned (B x) ∧ wr = w') := Lib.hid (by rw [hxe]; exact rinv_nat (i ^^^ k) wr (by omega))
        clear hxe
        clear HSET hI
        go_wp2_with (go_at_call 35; refine HC.out.mono ?_; rintro e w' ⟨rfl, rfl⟩)
        clear hx hx16 hw8
        go_roundw
        case rel => exact ⟨k + 1, by omega, by go_num, HR⟩
        case measure => simp [intOf]; omega
      · have q1 : decide ((i : Int) < (d : Int)) = true := by simp; omega
        have q2 : decide ((d : Int) ≤ (i : Int)) = false := by simp; omega
        by_cases hik : i = k
        · have q3 : ((i : Int) == (k : Int)) = true := by simp [hik]
          have HR := Lib.hid (HSET.out 1 (by rw [coef, if_neg hdi, if_pos hik]))
          clear HSET hI hik
          go_wp2_with fail
          go_roundw
          case rel => exact ⟨k + 1, by omega, by go_num, HR⟩
          case measure => simp [intOf]; omega
        · have q3 : ((i : Int) == (k : Int)) = false := by simp; omega
          have HR : Hid (RowI d i (k + 1) w wr) := Lib.hid ⟨by rw [← rpart_same d i k (by rw [coef, if_neg hdi, if_neg hik])]; exact hI.out.1, hI.out.2⟩
          clear HSET hI
          go_wp2_with fail
          go_roundw
          case rel => exact ⟨k + 1, by omega, by go_num, HR⟩
          case measure => simp [intOf]; omega
    · obtain rfl : k = d := by omega
      have HR : Hid (Blk wr w.heap.size 5 (row (crw k i))) := Lib.hid (by rw [← rpart_all]; exact hI.out.1)
      go_wp2_with fail
      go_ret
      exact ⟨rfl, HR.out, hI.out.2⟩
end Go.Proofs.Ytoeeklkebcgmaaa
/- Contracts of the references kinkeepref04: Same, Ints. -/
namespace Go.Proofs.Ytoeeklkebcgmaaa
open Go.RowKit Gf

def sameB (a b : List (List UInt8)) : Bool := decide (a = b)
theorem same_true {a b : List (List UInt8)} (hl : a.length = b.length) (h : ∀ j, j < a.length → gR a j = gR b j) : sameB a b = true := by
  refine decide_eq_true (List.ext_getElem hl fun i h1 h2 => ?_)
  have := h i h1
  rwa [gR_eq h1, gR_eq h2] at this
theorem same_false {a b : List (List UInt8)} {j : Nat} (h : gR a j ≠ gR b j) : sameB a b = false := decide_eq_false fun e => h (by rw [e])

set_option maxRecDepth 100000 in
set_option maxHeartbeats 1000000 in
theorem same_any (A A' : Option Addr) (n c n' c' : Nat) (a b : List (List UInt8)) (w : World) (h : MS w A n c a) (h' : MS w A' n' c' b) :
    Calls Try.prog 18 #[.slice A n c, .slice A' n' c'] w fun e w' => e = .returned (.bool (sameB a b)) ∧ Below w.heap.size w w' := by
  have HLa := Lib.hid h.1
  have HLb := Lib.hid h'.1
  have HA := Lib.hid h
  have HB := Lib.hid h'
  have hn := h.len_le
  clear h h'
  by_cases hnn : n = n'
  · subst hnn
    have hq : ((n : Int) != (n : Int)) = false := by simp
    go_enter Try.func18, Try.ntmps18
    go_wp2_with fail
    go_loopw [5] (fun i wr => ∃ k : Nat, k ≤ n ∧ i = .int .i64 (k : Int) ∧ Hid (∀ j, j < k → gR a j = gR b j) ∧ Hid (Below w.heap.size w wr)) (fun i _ => n - (intOf i).toNat)
    case atStart => exact ⟨0, by omega, rfl, Lib.hid (fun j hj => absurd hj (by omega)), Lib.hid (Below.refl _ _)⟩
    case round =>
      obtain ⟨k, hk, rfl, hE, hb⟩ := hrel
      by_cases hlt : k < n
      · obtain ⟨g1, o1, A1, n1, c1, rfl, hc1, hr1⟩ := HA.out.at_ hb.out hlt
        obtain ⟨g2, o2, A2, n2, c2, rfl, hc2, hr2⟩ := HB.out.at_ hb.out hlt
        have cv1 := conv_str hr1.drew
        have cv2 := conv_str hr2.drew
        clear hr1 hr2
        by_cases he : gR a k = gR b k
        · have hbb : ((strB (gR a k)).toList == (strB (gR b k)).toList) = true := by rw [strB_eq, decide_eq_true he]
          have HE' : Hid (∀ j, j < k + 1 → gR a j = gR b j) := Lib.hid (fun j hj => by
            by_cases e : j = k
            · rw [e]; exact he
            · exact hE.out j (by omega))
          have HB' : Hid (Below w.heap.size w wr.drew) := Lib.hid hb.out.drew
          clear he hE hb
          go_wp2_with fail
          refine Text.wp_region_text (fun _ => True) [(0, 4), (1, 4), (2, 4), (5, 4), (6, 4), (7, 4), (3, 1), (4, 1), (8, 1), (9, 1), (10, 4)] (by kernel_rfl) (by kernel_rfl) (fun _ _ _ _ _ h => h) (trivial) ?_
          iterate 6 (refine Text.purek rfl rfl (fun K hK => ⟨_, fun w' => by go_simp <;> rfl, ?_⟩); go_simp; refine hK _ ?_; clear hK K)
          iterate 4 (refine Text.readk rfl rfl (fun K hK => ⟨_, by go_simp <;> rfl, ?_⟩); go_simp; refine hK _ ?_; clear hK K)
          (refine Text.purek rfl rfl (fun K hK => ⟨_, fun w' => by go_simp <;> rfl, ?_⟩); go_simp; refine hK _ ?_; clear hK K)
          refine Text.done ?_
          go_wp2_with fail
          go_roundw
          case rel => exact ⟨k + 1, by omega, by go_num, HE', HB'⟩
          case measure => simp [intOf]; omega
        · have hbb : ((strB (gR a k)).toList == (strB (gR b k)).toList) = false := by rw [strB_eq, decide_eq_false he]
          have HS := Lib.hid (same_false he)
          have HB' : Hid (Below w.heap.size w wr.drew) := Lib.hid hb.out.drew
          clear he hE hb
          go_wp2_with fail
          refine Text.wp_region_text (fun _ => True) [(0, 4), (1, 4), (2, 4), (5, 4), (6, 4), (7, 4), (3, 1), (4, 1), (8, 1), (9, 1), (10, 4)] (by kernel_rfl) (by kernel_rfl) (fun _ _ _ _ _ h => h) (trivial) ?_
          iterate 6 (refine Text.purek rfl rfl (fun K hK => ⟨_, fun w' => by go_simp <;> rfl, ?_⟩); go_simp; refine hK _ ?_; clear hK K)
          iterate 4 (refine Text.readk rfl rfl (fun K hK => ⟨_, by go_simp <;> rfl, ?_⟩); go_simp; refine hK _ ?_; clear hK K)
          (refine Text.purek rfl rfl (fun K hK => ⟨_, fun w' => by go_simp <;> rfl, ?_⟩); go_simp; refine hK _ ?_; clear hK K)
          refine Text.done ?_
          go_wp2_with fail
          go_ret
          exact ⟨ret_bool HS.out.symm, HB'.out⟩
      · obtain rfl : k = n := by omega
        have HS : Hid (sameB a b = true) := Lib.hid (same_true (by rw [HLa.out, HLb.out]) (fun j hj => hE.out j (by rw [← HLa.out]; exact hj)))
        go_wp2_with fail
        go_ret
        exact ⟨ret_bool HS.out.symm, hb.out⟩
  · have hq : ((n : Int) != (n' : Int)) = true := by simp; omega
    have HS : Hid (sameB a b = false) := Lib.hid (decide_eq_false fun e => hnn (by rw [← HLa.out, ← HLb.out, e]))
    clear hnn
    go_enter Try.func18, Try.ntmps18
    go_wp2_with fail
    go_ret
    exact ⟨ret_bool HS.out.symm, Below.refl _ _⟩

def intsB (a b : List Int) : Bool := decide (a = b)
theorem intsB_true {a b : List Int} (hl : a.length = b.length) (h : ∀ j, j < a.length → gI a j = gI b j) : intsB a b = true := by
  refine decide_eq_true (List.ext_getElem hl fun i h1 h2 => ?_)
  have := h i h1
  rwa [gI_eq h1, gI_eq h2] at this
theorem intsB_false {a b : List Int} {j : Nat} (h : gI a j ≠ gI b j) : intsB a b = false := decide_eq_false fun e => h (by rw [e])

set_option maxRecDepth 100000 in
set_option maxHeartbeats 1000000 in
theorem ints_any (A A' : Option Addr) (n c n' c' : Nat) (a b : List Int) (w : World) (h : IS w A n c a) (h' : IS w A' n' c' b) :
    Calls Try.prog 23 #[.slice A n c, .slice A' n' c'] w fun e w' => e = .returned (.bool (intsB a b)) ∧ Below w.heap.size w w' := by
  have HLa := Lib.hid h.1
  have HLb := Lib.hid h'.1
  have HA := Lib.hid h
  have HB := Lib.hid h'
  have hn := h.len_le
  clear h h'
  by_cases hnn : n = n'
  · subst hnn
    have hq : ((n : Int) != (n : Int)) = false := by simp
    go_enter Try.func23, Try.ntmps23
    go_wp2_with fail
    go_loopw [5] (fun i wr => ∃ k : Nat, k ≤ n ∧ i = .int .i64 (k : Int) ∧ Hid (∀ j, j < k → gI a j = gI b j) ∧ Hid (Below w.heap.size w wr)) (fun i _ => n - (intOf i).toNat)
    case atStart => exact ⟨0, by omega, rfl, Lib.hid (fun j hj => absurd hj (by omega)), Lib.hid (Below.refl _ _)⟩
    case round =>
      obtain ⟨k, hk, rfl, hE, hb⟩ := hrel
      by_cases hlt : k < n
      · obtain ⟨g1, o1, rfl, hc1⟩ := HA.out.at_ hb.out hlt
        obtain ⟨g2, o2, rfl, hc2⟩ := HB.out.at_ hb.out hlt
        by_cases he : gI a k = gI b k
        · have hbb : (gI a k != gI b k) = false := by simp [he]
          have HE' : Hid (∀ j, j < k + 1 → gI a j = gI b j) := Lib.hid (fun j hj => by
            by_cases e : j = k
            · rw [e]; exact he
            · exact hE.out j (by omega))
          have HB' : Hid (Below w.heap.size w wr.drew) := Lib.hid hb.out.drew
          clear he hE hb
          go_wp2_with fail
          refine Text.wp_region_text (fun _ => True) [(0, 4), (1, 4), (2, 4), (4, 4), (5, 4), (6, 4), (3, 1), (7, 1), (8, 4)] (by kernel_rfl) (by kernel_rfl) (fun _ _ _ _ _ h => h) (trivial) ?_
          iterate 6 (refine Text.purek rfl rfl (fun K hK => ⟨_, fun w' => by go_simp <;> rfl, ?_⟩); go_simp; refine hK _ ?_; clear hK K)
          iterate 2 (refine Text.readk rfl rfl (fun K hK => ⟨_, by go_simp <;> rfl, ?_⟩); go_simp; refine hK _ ?_; clear hK K)
          (refine Text.purek rfl rfl (fun K hK => ⟨_, fun w' => by go_simp <;> rfl, ?_⟩); go_simp; refine hK _ ?_; clear hK K)
          refine Text.done ?_
          go_wp2_with fail
          go_roundw
          case rel => exact ⟨k + 1, by omega, by go_num, HE', HB'⟩
          case measure => simp [intOf]; omega
        · have hbb : (gI a k != gI b k) = true := by simp [he]
          have HS := Lib.hid (intsB_false he)
          have HB' : Hid (Below w.heap.size w wr.drew) := Lib.hid hb.out.drew
          clear he hE hb
          go_wp2_with fail
          refine Text.wp_region_text (fun _ => True) [(0, 4), (1, 4), (2, 4), (4, 4), (5, 4), (6, 4), (3, 1), (7, 1), (8, 4)] (by kernel_rfl) (by kernel_rfl) (fun _ _ _ _ _ h => h) (trivial) ?_
          iterate 6 (refine Text.purek rfl rfl (fun K hK => ⟨_, fun w' => by go_simp <;> rfl, ?_⟩); go_simp; refine hK _ ?_; clear hK K)
          iterate 2 (refine Text.readk rfl rfl (fun K hK => ⟨_, by go_simp <;> rfl, ?_⟩); go_simp; refine hK _ ?_; clear hK K)
          (refine Text.purek rfl rfl (fun K hK => ⟨_, fun w' => by go_simp <;> rfl, ?_⟩); go_simp; refine hK _ ?_; clear hK K)
          refine Text.done ?_
          go_wp2_with fail
          go_ret
          exact ⟨ret_bool HS.out.symm, HB'.out⟩
      · obtain rfl : k = n := by omega
        have HS : Hid (intsB a b = true) := Lib.hid (intsB_true (by rw [HLa.out, HLb.out]) (fun j hj => hE.out j (by rw [← HLa.out]; exact hj)))
        go_wp2_with fail
        go_ret
        exact ⟨ret_bool HS.out.symm, hb.out⟩
  · have hq : ((n : Int) != (n' : Int)) = true := by simp; omega
    have HS : Hid (intsB a b = false) := Lib.hid (decide_eq_false fun e => hnn (by rw [← HLa.out, ← HLb.out, e]))
    clear hnn
    go_enter Try.func23, Try.ntmps23
    go_wp2_with fail
    go_ret
    exact ⟨ret_bool HS.out.symm, Below.refl _ _⟩
end Go.Proofs.Ytoeeklkebcgmaaa
/- Contracts of kinkeeplaw08.few and kinkeepref08.Blocks. -/
namespace Go.Proofs.Ytoeeklkebcgmaaa
open Go.RowKit Gf

def fewR (m : List (List UInt8)) (i : Nat) : Bool := decide ((gR m i).length ≤ 40)
def fewB (m : List (List UInt8)) (k : Int) : Bool := (List.range m.length).all (fewR m) && decide ((m.length : Int) ≤ k)
theorem fewB_false {m : List (List UInt8)} {k : Int} {i : Nat} (hi : i < m.length) (h : fewR m i = false) : fewB m k = false := by
  have : (List.range m.length).all (fewR m) = false := by
    rw [Bool.eq_false_iff]; intro h'; rw [List.all_eq_true] at h'; rw [h' i (List.mem_range.2 hi)] at h; cases h
  simp only [fewB, this, Bool.false_and]
theorem fewB_end {m : List (List UInt8)} {k : Int} (h : ∀ i, i < m.length → fewR m i = true) : fewB m k = decide ((m.length : Int) ≤ k) := by
  have : (List.range m.length).all (fewR m) = true := by rw [List.all_eq_true]; intro i hi; exact h i (List.mem_range.1 hi)
  simp only [fewB, this, Bool.true_and]

set_option maxHeartbeats 1000000 in
theorem few_any (A : Option Addr) (n c : Nat) (m : List (List UInt8)) (k : Int) (w : World) (h : MS w A n c m) :
    Calls Try.prog 15 #[.slice A n c, .int .i64 k] w fun e w' => e = .returned (.bool (fewB m k)) ∧ w = w' := by
  have hn := h.len_le
  have HL := Lib.hid h.1
  have HM := Lib.hid h
  clear h
  go_enter Try.func15, Try.ntmps15
  go_wp2
  go_loop [5] (fun i => ∃ j : Nat, j ≤ n ∧ i = .int .i64 (j : Int) ∧ Hid (∀ i, i < j → fewR m i = true)) (fun i => n - (intOf i).toNat)
  case atStart => exact ⟨0, by omega, rfl, Lib.hid (fun j hj => absurd hj (by omega))⟩
  case round =>
    obtain ⟨j, hj, rfl, hall⟩ := hrel
    by_cases hlt : j < n
    · obtain ⟨g, o, A1, n1, c1, rfl, hc, hr1⟩ := HM.out.at_ (Below.refl _ _) hlt
      have HN1 := Lib.hid hr1.1
      have hln := hr1.len_le
      clear hr1
      by_cases e1 : 40 < n1
      · have q1 : decide ((40 : Int) < (n1 : Int)) = true := by simp; omega
        have HF : Hid (fewB m k = false) := Lib.hid (fewB_false (by rw [HL.out]; exact hlt) (by unfold fewR; rw [HN1.out]; simp; omega))
        clear e1 hall
        go_wp2
        go_ret
        exact ⟨ret_bool (by rw [HF.out]), rfl⟩
      · have q1 : decide ((40 : Int) < (n1 : Int)) = false := by simp; omega
        have HA : Hid (∀ i, i < j + 1 → fewR m i = true) := Lib.hid (fun i hi => by
          by_cases e : i = j
          · subst e; unfold fewR; rw [HN1.out]; simp; omega
          · exact hall.out i (by omega))
        clear e1 hall
        go_wp2
        go_round
        case rel => exact ⟨j + 1, by omega, by go_num, HA⟩
        case measure => simp [intOf]; omega
    · obtain rfl : j = n := by omega
      have HT : Hid (fewB m k = decide ((j : Int) ≤ k)) := Lib.hid (by rw [fewB_end (fun i hi => hall.out i (by rw [HL.out] at hi; exact hi)), HL.out])
      go_wp2
      go_ret
      exact ⟨ret_bool (by rw [HT.out]), rfl⟩

/-- Blocks. -/
def blkB (m : List (List UInt8)) (k : Int) : Bool := oneB m && decide ((1 : Int) ≤ (m.length : Int)) && decide ((m.length : Int) ≤ k)

set_option maxHeartbeats 1000000 in
theorem blocks_any (A : Option Addr) (n c : Nat) (m : List (List UInt8)) (k : Int) (w : World) (h : MS w A n c m) :
    Calls Try.prog 17 #[.slice A n c, .int .i64 k] w fun e w' => e = .returned (.bool (blkB m k)) ∧ Below w.heap.size w w' := by
  have hn := h.len_le
  have HL := Lib.hid h.1
  have HM := Lib.hid h
  clear h
  go_enter Try.func17, Try.ntmps17
  go_wp2
  go_loopw [5] (fun i wr => ∃ j : Nat, j ≤ n ∧ i = .int .i64 (j : Int) ∧ Hid (∀ i, i < j → okRow m i = true) ∧ Hid (Below w.heap.size w wr)) (fun i _ => n - (intOf i).toNat)
  case atStart => exact ⟨0, by omega, rfl, Lib.hid (fun j hj => absurd hj (by omega)), Lib.hid (Below.refl _ _)⟩
  case round =>
    obtain ⟨j, hj, rfl, hall, hb⟩ := hrel
    by_cases hlt : j < n
    · obtain ⟨g, o, A1, n1, c1, rfl, hc, hr1⟩ := HM.out.at_ hb.out hlt
      obtain ⟨g', o', A2, n2, c2, e2, hc2, hr2⟩ := HM.out.at_ hb.out (show 0 < n by omega)
      injection e2 with e2
      injection e2 with e3 e4
      subst e3 e4
      rw [Nat.add_zero] at hc2
      have HN1 := Lib.hid hr1.1
      have HN2 := Lib.hid hr2.1
      have hln := hr1.len_le
      have hln2 := hr2.len_le
      clear hr1 hr2
      by_cases e1 : n1 = 0
      · have q1 : decide ((n1 : Int) < 1) = true := by simp; omega
        have HF : Hid (blkB m k = false) := Lib.hid (by unfold blkB; rw [oneB_false (i := j) (by rw [HL.out]; exact hlt) (by unfold okRow; rw [HN1.out, HN2.out]; simp [e1])]; rfl)
        clear e1 hall
        go_wp2
        go_quiet (fail)
        go_wp2
        go_ret
        exact ⟨ret_bool (by rw [HF.out]), below_drewN hb.out _⟩
      · have q1 : decide ((n1 : Int) < 1) = false := by simp; omega
        by_cases e2 : 65536 < n1
        · have q2 : decide ((65536 : Int) < (n1 : Int)) = true := by simp; omega
          have HF : Hid (blkB m k = false) := Lib.hid (by unfold blkB; rw [oneB_false (i := j) (by rw [HL.out]; exact hlt) (by unfold okRow; rw [HN1.out, HN2.out]; simp; omega)]; rfl)
          clear e1 hall
          go_wp2
          go_quiet (fail)
          go_wp2
          go_ret
          exact ⟨ret_bool (by rw [HF.out]), below_drewN hb.out _⟩
        · have q2 : decide ((65536 : Int) < (n1 : Int)) = false := by simp; omega
          by_cases e3 : n1 = n2
          · have q3 : ((n1 : Int) != (n2 : Int)) = false := by simp [e3]
            have HA : Hid (∀ i, i < j + 1 → okRow m i = true) := Lib.hid (fun i hi => by
              by_cases e : i = j
              · subst e; unfold okRow; rw [HN1.out, HN2.out]; simp; omega
              · exact hall.out i (by omega))
            clear e3 hall
            go_wp2
            go_quiet (fail)
            go_wp2
            go_roundw
            case rel => exact ⟨j + 1, by omega, by go_num, HA, Lib.hid (below_drewN hb.out _)⟩
            case measure => simp [intOf]; omega
          · have q3 : ((n1 : Int) != (n2 : Int)) = true := by simp; omega
            have HF : Hid (blkB m k = false) := Lib.hid (by unfold blkB; rw [oneB_false (i := j) (by rw [HL.out]; exact hlt) (by unfold okRow; rw [HN1.out, HN2.out]; simp; omega)]; rfl)
            clear hall
            go_wp2
            go_quiet (fail)
            go_wp2
            go_ret
            exact ⟨ret_bool (by rw [HF.out]), below_drewN hb.out _⟩
    · obtain rfl : j = n := by omega
      have HT : Hid (blkB m k = (decide ((1 : Int) ≤ (j : Int)) && decide ((j : Int) ≤ k))) := Lib.hid (by unfold blkB; rw [oneB_true (fun i hi => hall.out i (by rw [HL.out] at hi; exact hi)), HL.out]; rfl)
      by_cases h1 : 1 ≤ j
      · have q1 : decide ((1 : Int) ≤ (j : Int)) = true := by simp; omega
        have HT' : Hid (blkB m k = decide ((j : Int) ≤ k)) := Lib.hid (by rw [HT.out, q1]; rfl)
        clear h1
        go_wp2
        go_ret
        exact ⟨ret_bool (by rw [HT'.out]), hb.out⟩
      · have q1 : decide ((1 : Int) ≤ (j : Int)) = false := by simp; omega
        have HT' : Hid (blkB m k = false) := Lib.hid (by rw [HT.out, q1]; rfl)
        go_wp2
        go_ret
        exact ⟨ret_bool (by rw [HT'.out]), hb.out⟩
end Go.Proofs.Ytoeeklkebcgmaaa
/- What the examples of the chapter come to, and slices that a literal builds. -/
namespace Go.Proofs.Ytoeeklkebcgmaaa
open Go.RowKit Gf

theorem ex_row : crw 2 2 = [142, 244] := by decide +kernel
theorem ex_enc : encM 2 3 [[1], [2]] 1 = [[1], [2], [123]] := by decide +kernel
theorem ex_rep : prd [[1], [123]] (fac1 2 [0, 2] 1) 1 = [2] := by decide +kernel
theorem ex_reg2 : Reg 2 [0, 2] := by unfold Reg; decide +kernel
theorem ex_gv2 : gvE 2 3 (ints [0, 2]) [[1], [123]] = 0 := by decide +kernel
theorem ex_gv1 : gvE 1 3 (ints [0, 1, 2]) [[7], [7], [9]] = 0 := by decide +kernel
theorem ex_gv1' : gvE 1 3 (ints [0, 1, 2]) [[7], [8], [9]] = 0 := by decide +kernel
theorem ex_one : oneB [[1], [2]] = true := by decide +kernel
theorem ex_reg1 : ∀ s, s < 2 ^ 3 → popc s = (3 - 1) / 2 → Reg 1 (locR [0, 1, 2] 3 s) := by
  have : (List.range 8).all (fun s => !decide (popc s = 1) || decide ((elimI (ofM 1 ((locR [0, 1, 2] 3 s).take 1)) 1).2 = 1)) = true := by decide +kernel
  intro s hs hp
  have h1 := List.all_eq_true.1 this s (List.mem_range.2 hs)
  have h2 : popc s = 1 := hp
  unfold Reg
  simpa [h2] using h1
theorem ex_loc : ∀ s, s < 2 ^ 3 → locH [0, 1, 2] [[7], [7], [9]] 1 1 3 s = true → s = 4 := by
  have : (List.range 8).all (fun s => !locH [0, 1, 2] [[7], [7], [9]] 1 1 3 s || decide (s = 4)) = true := by decide +kernel
  intro s hs hp
  have h1 := List.all_eq_true.1 this s (List.mem_range.2 hs)
  simpa [hp] using h1
theorem ex_loc4 : locH [0, 1, 2] [[7], [7], [9]] 1 1 3 4 = true := by decide +kernel
theorem ex_difs : ints (difs (selM [[7], [7], [9]] 4 false 3) (facM 1 (locR [0, 1, 2] 3 4) (selN [0, 1, 2] 4 true 3)) (selN [0, 1, 2] 4 true 3) (selM [[7], [7], [9]] 4 true 3) 1 (popc 4)) = [2] := by decide +kernel
theorem ex_locO : locO [0, 1, 2] [[7], [7], [9]] 1 1 3 4 = [2] := by unfold locO; rw [ex_difs]; simp [isort]
theorem ex_loc' : ∀ s, s < 2 ^ 3 → locH [0, 1, 2] [[7], [8], [9]] 1 1 3 s = false := by
  have : (List.range 8).all (fun s => !locH [0, 1, 2] [[7], [8], [9]] 1 1 3 s) = true := by decide +kernel
  intro s hs
  have h1 := List.all_eq_true.1 this s (List.mem_range.2 hs)
  simpa using h1

theorem bs1 {w : World} {g : Nat} {x : Int} {a : UInt8} (hx : bv a = x) (h : Blk w g 5 #[.int .u8 x]) : BS w (some ⟨g, 0, none⟩) 1 1 [a] := by
  subst hx
  exact BS.of_blk (l := [a]) h rfl (by unfold lim; omega)
theorem ms_of {w : World} {g n : Nat} {cs : Array Value} {m : List (List UInt8)} (h : Blk w g 22 cs) (hm : m.length = n) (hn : n ≤ 64) (hr : ∀ k, k < n → ∃ A n' c', cs[k]? = some (.slice A n' c') ∧ BS w A n' c' (gR m k)) : MS w (some ⟨g, 0, none⟩) n n m :=
  ⟨hm, Nat.le_refl _, by unfold lim; omega, fun k hk => by
    obtain ⟨A, n', c', h1, h2⟩ := hr k hk
    exact ⟨g, 0, A, n', c', rfl, by rw [h.cell, Nat.zero_add]; exact h1, h2⟩⟩
theorem ms2 {w : World} {g g1 g2 : Nat} {a b : UInt8} (h : Blk w g 22 #[.slice (some ⟨g1, 0, none⟩) 1 1, .slice (some ⟨g2, 0, none⟩) 1 1]) (h1 : BS w (some ⟨g1, 0, none⟩) 1 1 [a]) (h2 : BS w (some ⟨g2, 0, none⟩) 1 1 [b]) : MS w (some ⟨g, 0, none⟩) 2 2 [[a], [b]] :=
  ms_of h rfl (by omega) fun k hk => match k with
    | 0 => ⟨_, _, _, rfl, h1⟩
    | 1 => ⟨_, _, _, rfl, h2⟩
theorem ms3 {w : World} {g g1 g2 g3 : Nat} {a b c : UInt8} (h : Blk w g 22 #[.slice (some ⟨g1, 0, none⟩) 1 1, .slice (some ⟨g2, 0, none⟩) 1 1, .slice (some ⟨g3, 0, none⟩) 1 1]) (h1 : BS w (some ⟨g1, 0, none⟩) 1 1 [a]) (h2 : BS w (some ⟨g2, 0, none⟩) 1 1 [b]) (h3 : BS w (some ⟨g3, 0, none⟩) 1 1 [c]) : MS w (some ⟨g, 0, none⟩) 3 3 [[a], [b], [c]] :=
  ms_of h rfl (by omega) fun k hk => match k with
    | 0 => ⟨_, _, _, rfl, h1⟩
    | 1 => ⟨_, _, _, rfl, h2⟩
    | 2 => ⟨_, _, _, rfl, h3⟩
theorem size_alloc (w : World) (o : Obj) : (w.alloc o).heap.size = w.heap.size + 1 := World.size_alloc w o
theorem blk_at {w : World} {g : Nat} (hg : w.heap.size = g) (t : TypeId) (cs : Array Value) : Blk (w.alloc (.cells cs t)) g t cs := by subst hg; exact Blk.new w t cs
theorem lit2 {w : World} {g : Nat} (hg : w.heap.size = g) {x y : Int} {a b : UInt8} (hx : bv a = x) (hy : bv b = y) :
    MS (((w.alloc (.cells #[.int .u8 x] 5)).alloc (.cells #[.int .u8 y] 5)).alloc (.cells #[.slice (some ⟨g, 0, none⟩) 1 1, .slice (some ⟨g + 1, 0, none⟩) 1 1] 22)) (some ⟨g + 1 + 1, 0, none⟩) 2 2 [[a], [b]] :=
  ms2 (blk_at (by rw [size_alloc, size_alloc, hg]) _ _) (bs1 hx (((blk_at hg _ _).alloc _).alloc _)) (bs1 hy ((blk_at (by rw [size_alloc, hg]) _ _).alloc _))
theorem lit3 {w : World} {g : Nat} (hg : w.heap.size = g) {x y u : Int} {a b c : UInt8} (hx : bv a = x) (hy : bv b = y) (hu : bv c = u) :
    MS ((((w.alloc (.cells #[.int .u8 x] 5)).alloc (.cells #[.int .u8 y] 5)).alloc (.cells #[.int .u8 u] 5)).alloc (.cells #[.slice (some ⟨g, 0, none⟩) 1 1, .slice (some ⟨g + 1, 0, none⟩) 1 1, .slice (some ⟨g + 1 + 1, 0, none⟩) 1 1] 22)) (some ⟨g + 1 + 1 + 1, 0, none⟩) 3 3 [[a], [b], [c]] :=
  ms3 (blk_at (by rw [size_alloc, size_alloc, size_alloc, hg]) _ _) (bs1 hx ((((blk_at hg _ _).alloc _).alloc _).alloc _)) (bs1 hy (((blk_at (by rw [size_alloc, hg]) _ _).alloc _).alloc _)) (bs1 hu ((blk_at (by rw [size_alloc, size_alloc, hg]) _ _).alloc _))
theorem kb2 (w : World) (o1 o2 o3 : Obj) : Below w.heap.size w (((w.alloc o1).alloc o2).alloc o3) := (((Below.refl _ _).alloc (Nat.le_refl _) _).alloc (by simp) _).alloc (by simp; omega) _
theorem kb3 (w : World) (o1 o2 o3 o4 : Obj) : Below w.heap.size w ((((w.alloc o1).alloc o2).alloc o3).alloc o4) := ((((Below.refl _ _).alloc (Nat.le_refl _) _).alloc (by simp) _).alloc (by simp; omega) _).alloc (by simp; omega) _
theorem kb4 (w : World) (o1 o2 o3 o4 o5 : Obj) : Below w.heap.size w (((((w.alloc o1).alloc o2).alloc o3).alloc o4).alloc o5) := (((((Below.refl _ _).alloc (Nat.le_refl _) _).alloc (by simp) _).alloc (by simp; omega) _).alloc (by simp; omega) _).alloc (by simp; omega) _
theorem is_of {w : World} {g n : Nat} {z : List Int} (h : Blk w g 3 ((z.map (Value.int .i64)).toArray)) (hz : z.length = n) (hn : n ≤ 64) : IS w (some ⟨g, 0, none⟩) n n z :=
  ⟨hz, Nat.le_refl _, by unfold lim; omega, fun k hk => ⟨g, 0, rfl, by
    rw [h.cell, Nat.zero_add]
    show _ = some (Value.int .i64 (gI z k))
    rw [gI_eq (by omega)]
    simp [show k < z.length by omega]⟩⟩
end Go.Proofs.Ytoeeklkebcgmaaa
/- kinkeeplaw08.awake returns true. -/
namespace Go.Proofs.Ytoeeklkebcgmaaa
open Go.RowKit Gf

set_option maxRecDepth 100000 in
set_option maxHeartbeats 4000000 in
theorem awake_any (w : World) : Calls Try.prog 13 #[] w fun e w' => e = .returned (.bool true) ∧ Below w.heap.size w w' := by
  go_enter Try.func13, Try.ntmps13
  go_wp2_with fail
  refine (row_ok 2 4 2 w (by omega) (by omega) (by omega) (by omega) (by omega)).mono ?_
  rintro e w1 ⟨v1, rfl, A1, n1, c1, rfl, hr1, hb1⟩
  rw [ex_row] at hr1
  have HR1 := Lib.hid hr1
  have HB1 := Lib.hid hb1
  clear hr1 hb1
  go_wp2_with fail
  refine (encode_ok 2 3 2 2 _ [[1], [2]] 1 _ (by omega) (by omega) (by omega) (by omega) (lit2 rfl rfl rfl) (by omega) (by omega) ex_one rfl).mono ?_
  rintro e w2 ⟨v2, rfl, hv2⟩
  rw [ex_enc] at hv2
  obtain ⟨g2, n2, rfl, hn2, hm2, hb2⟩ := hv2.ms (by unfold lim; decide)
  obtain rfl : n2 = 3 := hn2.symm
  have HM2 := Lib.hid hm2
  have hb2' := below_then (kb2 w1 _ _ _) hb2
  have HR2 := Lib.hid (HR1.out.kept hb2')
  have HB2 := Lib.hid (below_then HB1.out hb2')
  clear hb2 hb2' hm2 hv2 hn2 HR1 HB1
  go_wp2_with fail
  refine (repair_ok 2 3 1 _ _ 2 2 2 [0, 2] [[1], [123]] 1 _ (is_of (z := ints [0, 2]) (blk_at rfl _ _ |>.alloc _ |>.alloc _ |>.alloc _) rfl (by omega)) (lit2 (World.size_alloc _ _) rfl rfl) ex_gv2 (by omega) (by omega) (by omega) (by omega) (fun i hi => match i with | 0 => by decide | 1 => by decide) (by omega) (fun i hi => match i with | 0 => rfl | 1 => rfl) (by omega) ex_reg2).mono ?_
  rintro e w3 ⟨v3, rfl, A3, n3, c3, rfl, hr3, hb3⟩
  rw [ex_rep] at hr3
  have HR3 := Lib.hid hr3
  have hb3' := below_then (kb3 w2 _ _ _ _) hb3
  have HR13 := Lib.hid (HR2.out.kept hb3')
  have HM3 := Lib.hid (HM2.out.kept hb3')
  have HB3 := Lib.hid (below_then HB2.out hb3')
  clear hb3 hb3' hr3 HR2 HM2 HB2
  go_wp2_with fail
  refine (locate_ok 1 3 _ _ 3 3 3 [0, 1, 2] [[7], [7], [9]] 1 _ (is_of (z := ints [0, 1, 2]) (blk_at rfl _ _ |>.alloc _ |>.alloc _ |>.alloc _ |>.alloc _) rfl (by omega)) (lit3 (World.size_alloc _ _) rfl rfl rfl) ex_gv1 (by omega) (by omega) (fun i hi => match i with | 0 => by decide | 1 => by decide | 2 => by decide) (by omega) (by omega) (fun i hi => match i with | 0 => rfl | 1 => rfl | 2 => rfl) (by omega) (by omega) ex_reg1).mono ?_
  rintro e w4 ⟨hb4, hl4⟩
  have hb4' := below_then (kb4 w3 _ _ _ _ _) hb4
  have HR14 := Lib.hid (HR13.out.kept hb4')
  have HR34 := Lib.hid (HR3.out.kept hb4')
  have HM4 := Lib.hid (HM3.out.kept hb4')
  have HB4 := Lib.hid (below_then HB3.out hb4')
  obtain ⟨s, hs, hh, _, v4, rfl, ho4⟩ := hl4.resolve_right (fun hno => absurd (hno.1 4 (by decide)) (by rw [ex_loc4]; decide))
  obtain rfl := ex_loc s hs hh
  rw [ex_locO] at ho4
  obtain ⟨A4, c4, rfl, hi4⟩ := IS.of_own ho4 (by unfold lim; decide)
  have HI4 := Lib.hid hi4
  clear hb4 hb4' hi4 ho4 hs hh hl4 HR13 HR3 HM3 HB3
  go_wp2_with fail
  refine (locate_ok 1 3 _ _ 3 3 3 [0, 1, 2] [[7], [8], [9]] 1 _ (is_of (z := ints [0, 1, 2]) (blk_at rfl _ _ |>.alloc _ |>.alloc _ |>.alloc _ |>.alloc _) rfl (by omega)) (lit3 (World.size_alloc _ _) rfl rfl rfl) ex_gv1' (by omega) (by omega) (fun i hi => match i with | 0 => by decide | 1 => by decide | 2 => by decide) (by omega) (by omega) (fun i hi => match i with | 0 => rfl | 1 => rfl | 2 => rfl) (by omega) (by omega) ex_reg1).mono ?_
  rintro e w5 ⟨hb5, hl5⟩
  have hb5' := below_then (kb4 w4 _ _ _ _ _) hb5
  have HR15 := Lib.hid (HR14.out.kept hb5')
  have HR35 := Lib.hid (HR34.out.kept hb5')
  have HM5 := Lib.hid (HM4.out.kept hb5')
  have HI5 := Lib.hid (HI4.out.kept hb5')
  have HB5 := Lib.hid (below_then HB4.out hb5')
  obtain ⟨_, rfl⟩ := hl5.resolve_left (fun ⟨s, hs, hh, _⟩ => absurd hh (by rw [ex_loc' s hs]; decide))
  clear hb5 hb5' hl5 HR14 HR34 HM4 HI4 HB4
  have cv1 := conv_str HR15.out
  have hs1 : (strB [142, 244]).toList = [142, 244] := strB_list _
  go_wp2_with fail
  have kb6 := kb3 w5 (.cells #[.int .u8 1] 5) (.cells #[.int .u8 2] 5) (.cells #[.int .u8 123] 5) (.cells #[.slice (some ⟨w5.heap.size, 0, none⟩) 1 1, .slice (some ⟨w5.heap.size + 1, 0, none⟩) 1 1, .slice (some ⟨w5.heap.size + 1 + 1, 0, none⟩) 1 1] 22)
  refine (same_any _ _ 3 3 3 3 [[1], [2], [123]] [[1], [2], [123]] _ (HM5.out.kept kb6) (lit3 rfl rfl rfl rfl)).mono ?_
  rintro e w6 ⟨rfl, hb6⟩
  have hb6' := below_then kb6 hb6
  have HR36 := Lib.hid (HR35.out.kept hb6')
  have HI6 := Lib.hid (HI5.out.kept hb6')
  have HB6 := Lib.hid (below_then HB5.out hb6')
  clear hb6 hb6' kb6 cv1 HR15 HR35 HM5 HI5 HB5
  rw [show sameB [[1], [2], [123]] [[1], [2], [123]] = true from by decide]
  have cv3 := conv_str HR36.out
  have hs2 : (strB [2]).toList = [2] := strB_list _
  clear hs1
  go_wp2_with fail
  have kb7 : Below w6.heap.size w6 (w6.alloc (.cells #[.int .i64 2] 3)) := (Below.refl _ _).alloc (Nat.le_refl _) _
  refine (ints_any _ _ 1 c4 1 1 [2] [2] _ (HI6.out.kept kb7) (is_of (z := [2]) (blk_at rfl _ _) rfl (by omega))).mono ?_
  rintro e w7 ⟨rfl, hb7⟩
  have HB7 := Lib.hid (below_then HB6.out (below_then kb7 hb7))
  clear hb7 kb7 cv3 HR36 HI6 HB6
  rw [show intsB [2] [2] = true from by decide]
  go_wp2_with fail
  go_ret
  exact ⟨rfl, HB7.out⟩
end Go.Proofs.Ytoeeklkebcgmaaa
/- Contracts of the references kinkeepref08: Piece, Encode; and that they are what the program computes. -/
namespace Go.Proofs.Ytoeeklkebcgmaaa
open Go.RowKit Gf

attribute [local go_sem] Gf.xor_bits Gf.and_bits Gf.or_bits Gf.ne_zero_iff Gf.eq_zero_iff Gf.eq_one_iff Gf.beq_bytes Gf.bne_bytes Gf.bv_toNat

/-- The sum of the first k products at place i. -/
def xs1 (r : List UInt8) (m : List (List UInt8)) (i : Nat) : Nat → UInt8
  | 0 => 0
  | k + 1 => xs1 r m i k ^^^ mul (gB r k) (gB (gR m k) i)
def pcR (r : List UInt8) (m : List (List UInt8)) (L : Nat) : List UInt8 := (List.range L).map fun i => xs1 r m i m.length
def ppart (r : List UInt8) (m : List (List UInt8)) (L j k : Nat) : List UInt8 := (List.range L).map fun i => if i < j then xs1 r m i m.length else if i = j then xs1 r m i k else 0
theorem pcR_length (r : List UInt8) (m : List (List UInt8)) (L : Nat) : (pcR r m L).length = L := by simp [pcR]
theorem ppart_length (r : List UInt8) (m : List (List UInt8)) (L j k : Nat) : (ppart r m L j k).length = L := by simp [ppart]
theorem ppart_zero (r : List UInt8) (m : List (List UInt8)) (L : Nat) : ppart r m L 0 0 = zeros L := by
  apply List.ext_getElem (by simp [ppart, zeros])
  intro i h1 h2
  simp [ppart, zeros, xs1]
theorem ppart_all (r : List UInt8) (m : List (List UInt8)) (L : Nat) : ppart r m L L 0 = pcR r m L := by
  unfold ppart pcR
  apply List.map_congr_left
  intro i hi; rw [if_pos (List.mem_range.1 hi)]
theorem ppart_next (r : List UInt8) (m : List (List UInt8)) (L j : Nat) : ppart r m L j m.length = ppart r m L (j + 1) 0 := by
  unfold ppart
  apply List.map_congr_left
  intro i hi
  by_cases h1 : i < j
  · rw [if_pos h1, if_pos (by omega)]
  · rw [if_neg h1]
    by_cases h2 : i = j
    · rw [if_pos h2, if_pos (by omega)]
    · rw [if_neg h2, if_neg (by omega)]; split <;> rfl
theorem ppart_get (r : List UInt8) (m : List (List UInt8)) (L j k : Nat) (h : j < L) : gB (ppart r m L j k) j = xs1 r m j k := by
  rw [gB_eq (by rw [ppart_length]; exact h)]; simp [ppart]
theorem ppart_set (r : List UInt8) (m : List (List UInt8)) (L j k : Nat) : (ppart r m L j k).set j (xs1 r m j (k + 1)) = ppart r m L j (k + 1) := by
  apply List.ext_getElem (by simp [ppart])
  intro i h1 h2
  rw [List.getElem_set]
  simp only [ppart, List.getElem_map, List.getElem_range]
  by_cases e : j = i
  · subst e; simp
  · rw [if_neg e]
    by_cases h3 : i < j
    · rw [if_pos h3, if_pos h3]
    · rw [if_neg h3, if_neg (fun e' => e e'.symm), if_neg h3, if_neg (fun e' => e e'.symm)]

def PcI (r : List UInt8) (m : List (List UInt8)) (L j k g gr : Nat) (w wr : World) : Prop :=
  Blk wr g 5 (row (ppart r m L j k)) ∧ Blk wr gr 5 (row r) ∧ Below w.heap.size w wr

set_option maxRecDepth 100000 in
set_option maxHeartbeats 2000000 in
theorem rpiece_any (d i : Nat) (A : Option Addr) (n c : Nat) (m : List (List UInt8)) (L : Nat) (w : World) (h : MS w A n c m) (hr : Rect m L) (hn : 0 < n) (hnd : n ≤ d) (hd8 : d ≤ 8) (hi : i < 16) :
    Calls Try.prog 31 #[.int .i64 (d : Int), .int .i64 (i : Int), .slice A n c] w (Rets (NewB 5 (pcR (crw d i) m L)) w) := by
  have HLm := Lib.hid h.1
  have HM := Lib.hid h
  have HRC := Lib.hid hr
  clear h hr
  go_enter Try.func31, Try.ntmps31
  go_wp2_with fail
  refine (rrow_any d i w hd8 hi).mono ?_
  rintro e w1 ⟨rfl, hk1, hb1⟩
  obtain ⟨g0, o0, A0, n0, c0, rfl, hc0, hr0⟩ := HM.out.at_ hb1 hn
  obtain rfl : n0 = L := by rw [← hr0.1]; exact HRC.out 0 (by rw [HLm.out]; exact hn)
  rw [Nat.add_zero] at hc0
  have hL := hr0.len_le
  have hmk := make_bytes n0 hL
  have HK1 := Lib.hid hk1
  have HB1 := Lib.hid hb1
  clear hk1 hb1 hr0
  go_wp2_with fail
  clear hmk
  obtain ⟨g, hg⟩ : ∃ g, g = w1.heap.size := ⟨_, rfl⟩
  have HGR : Hid (w.heap.size ≠ g ∧ w.heap.size ≤ g) := Lib.hid (by have := HK1.out.lt; have := HB1.out.size; omega)
  have HI : Hid (PcI (crw d i) m n0 0 0 g w.heap.size w (w1.alloc (.cells (row (zeros n0)) 5))) := Lib.hid ⟨by rw [ppart_zero, hg]; exact Blk.new w1 _ _, HK1.out.alloc _, HB1.out.alloc HB1.out.size _⟩
  rw [← hg]
  clear hg HK1 HB1
  go_loopw [9] (fun x wr => ∃ j : Nat, j ≤ n0 ∧ x = .int .i64 (j : Int) ∧ Hid (PcI (crw d i) m n0 j 0 g w.heap.size w wr)) (fun x _ => n0 - (intOf x).toNat)
  case atStart => exact ⟨0, by omega, rfl, HI⟩
  case round =>
    obtain ⟨j, hj, rfl, hI⟩ := hrel
    by_cases hlt : j < n0
    · go_wp2_with fail
      obtain ⟨wo, rfl⟩ : ∃ wo : World, wo = wr := ⟨_, rfl⟩
      go_loopw [10] (fun x wr => ∃ k : Nat, k ≤ n ∧ x = .int .i64 (k : Int) ∧ Hid (PcI (crw d i) m n0 j k g w.heap.size w wr)) (fun x _ => n - (intOf x).toNat)
      case atStart => exact ⟨0, by omega, rfl, hI⟩
      case round =>
        obtain ⟨k, hk, rfl, hI2⟩ := hrel
        by_cases hkn : k < n
        · obtain ⟨h1, h2, hb⟩ := hI2.out
          obtain ⟨g2, o2, A2, n2, c2, e2, hc2, hr2⟩ := HM.out.at_ hb hkn
          injection e2 with e2
          injection e2 with e21 e22
          subst e21 e22
          obtain rfl : n2 = n0 := by rw [← hr2.1]; exact HRC.out k (by rw [HLm.out]; exact hkn)
          obtain ⟨g3, o3, rfl, hc3⟩ := hr2.at_ (Below.refl _ _) hlt
          have x1 : wr.cell? ⟨g, j, none⟩ = some (B (xs1 (crw d i) m j k)) := by
            rw [h1.cell, row_get _ _ (by rw [ppart_length]; exact hlt), ppart_get _ _ _ _ _ hlt]
          have x2 := h1.frozen j
          have x3 : wr.cell? ⟨w.heap.size, k, none⟩ = some (B (gB (crw d i) k)) := by
            rw [h2.cell]; exact row_get _ _ (by rw [crw_length]; omega)
          have hkd : (k : Int) < (d : Int) := by omega
          have HR : Hid (PcI (crw d i) m n2 j (k + 1) g w.heap.size w (wr.setCell ⟨g, j, none⟩ (B (xs1 (crw d i) m j k ^^^ mul (gB (crw d i) k) (gB (gR m k) j))))) := by
            have h3 := h1.set_ j (B (xs1 (crw d i) m j (k + 1)))
            rw [row_set, ppart_set] at h3
            exact Lib.hid ⟨h3, h2.far HGR.out.1 _, hb.setCell (p := ⟨g, j, none⟩) HGR.out.2 _⟩
          obtain ⟨xa, hxa⟩ : ∃ xa, xa = xs1 (crw d i) m j k := ⟨_, rfl⟩
          obtain ⟨xb, hxb⟩ : ∃ xb, xb = gB (crw d i) k := ⟨_, rfl⟩
          obtain ⟨xc, hxc⟩ : ∃ xc, xc = gB (gR m k) j := ⟨_, rfl⟩
          rw [← hxa] at x1 HR
          rw [← hxb] at x3 HR
          rw [← hxc] at hc3 HR
          clear h1 h2 hb hr2 hI2 hxa hxb hxc hI
          go_wp2_with fail
          refine Text.wp_region_text (fun _ => True) [(0, 4), (1, 4), (2, 4), (3, 4), (4, 4), (6, 4), (7, 4), (8, 4), (10, 4), (11, 4), (12, 4), (14, 4), (5, 1), (9, 1), (13, 1), (15, 4), (16, 1), (17, 1), (18, 4), (19, 4), (20, 2)] (by kernel_rfl) (by kernel_rfl) (fun _ _ _ _ _ h => h) (trivial) ?_
          iterate 12 (refine Text.purek rfl rfl (fun K hK => ⟨_, fun w' => by go_simp <;> rfl, ?_⟩); go_simp; refine hK _ ?_; clear hK K)
          iterate 3 (refine Text.readk rfl rfl (fun K hK => ⟨_, by go_simp <;> rfl, ?_⟩); go_simp; refine hK _ ?_; clear hK K)
          (refine Text.purek rfl rfl (fun K hK => ⟨_, fun w' => by go_simp <;> rfl, ?_⟩); go_simp; refine hK _ ?_; clear hK K)
          (refine Text.readk rfl rfl (fun K hK => ⟨_, by go_simp <;> rfl, ?_⟩); go_simp; refine hK _ ?_; clear hK K)
          refine Text.quietk rfl rfl (fun K hK => ?_)
          refine ⟨_, _, _, by go_simp <;> rfl, rmul_any xb xc _, ?_⟩
          go_simp
          refine hK _ ?_
          clear hK K
          iterate 2 (refine Text.purek rfl rfl (fun K hK => ⟨_, fun w' => by go_simp <;> rfl, ?_⟩); go_simp; refine hK _ ?_; clear hK K)
          refine Text.eff rfl rfl (fun K hK => ?_)
          go_simp
          refine hK _ _ trivial ?_
          clear hK K
          refine Text.done ?_
          go_wp2_with fail
          go_roundw
          case rel => exact ⟨k + 1, by omega, by go_num, Lib.hid ⟨HR.out.1.drew, HR.out.2.1.drew, HR.out.2.2.drew⟩⟩
          case measure => simp [intOf]; omega
        · obtain rfl : k = n := by omega
          have HR : Hid (PcI (crw d i) m n0 (j + 1) 0 g w.heap.size w wr) := Lib.hid (by rw [PcI, ← ppart_next, HLm.out]; exact hI2.out)
          clear hI2 hI
          go_wp2_with fail
          go_roundw
          case rel => exact ⟨j + 1, by omega, by go_num, HR⟩
          case measure => simp [intOf]; omega
    · obtain rfl : j = n0 := by omega
      have HR : Hid (NewB 5 (pcR (crw d i) m j) w (.slice (some ⟨g, 0, none⟩) j j) wr) := Lib.hid ⟨g, j, rfl, pcR_length _ _ _, HGR.out.2, by rw [← ppart_all]; exact hI.out.1, hI.out.2.2⟩
      clear hI
      go_wp2_with fail
      go_ret
      exact ⟨_, rfl, HR.out⟩

def rencM (d t : Nat) (m : List (List UInt8)) (L : Nat) : List (List UInt8) := (List.range t).map fun i => pcR (crw d i) m L
theorem rencM_succ (d t : Nat) (m : List (List UInt8)) (L : Nat) : rencM d (t + 1) m L = rencM d t m L ++ [pcR (crw d t) m L] := by simp [rencM, List.range_succ]

set_option maxRecDepth 100000 in
set_option maxHeartbeats 2000000 in
theorem rencode_any (d t : Nat) (A : Option Addr) (n c : Nat) (m : List (List UInt8)) (L : Nat) (w : World) (h : MS w A n c m) (hr : Rect m L) (hL : 0 < L) (hn : 0 < n) (hnd : n ≤ d) (hd8 : d ≤ 8) (ht : t ≤ 16) :
    Calls Try.prog 19 #[.int .i64 (d : Int), .int .i64 (t : Int), .slice A n c] w fun e w' => ∃ v, e = .returned v ∧ OwnM w' w.heap.size v t (rencM d t m L) ∧ Below w.heap.size w w' := by
  have HM := Lib.hid h
  have HRC := Lib.hid hr
  clear h hr
  have ht16 : (t : Int) ≤ 16 := by omega
  go_enter Try.func19, Try.ntmps19
  go_wp2_with fail
  have HO : Hid (OwnM (w.alloc (.cells #[] 22)) w.heap.size (.slice (some ⟨w.heap.size, 0, none⟩) 0 0) 0 (rencM d 0 m L)) := Lib.hid ⟨rfl, [], World.ownsRow_lit w #[] 0 (Nat.le_refl _) (by simp [maxLen]) rfl, fun j hj => absurd hj (by omega)⟩
  go_loopw [7, 8] (fun v i wr => ∃ k : Nat, k ≤ t ∧ i = .int .i64 (k : Int) ∧ Hid (OwnM wr w.heap.size v k (rencM d k m L)) ∧ Hid (Below w.heap.size w wr)) (fun _ i _ => t - (intOf i).toNat)
  case atStart => exact ⟨0, by omega, rfl, HO, Lib.hid ((Below.refl _ _).alloc (Nat.le_refl _) _)⟩
  case round =>
    obtain ⟨k, hk, rfl, ho, hb⟩ := hrel
    by_cases hlt : k < t
    · go_wp2_with fail
      refine (rpiece_any d k A n c m L wr (HM.out.kept hb.out) HRC.out hn hnd hd8 (by omega)).mono ?_
      rintro e w1 ⟨v1, rfl, g1, n1, rfl, hn1, hg1, hk1, hb1⟩
      obtain rfl : n1 = L := by rw [← hn1, pcR_length]
      have HBS : Hid (BS w1 (some ⟨g1, 0, none⟩) n1 n1 (pcR (crw d k) m n1)) := Lib.hid (BS.of_blk hk1 hn1 (by
        obtain ⟨_, _, _, _, _, _, _, hr0⟩ := HM.out.at_ (Below.refl _ _) hn
        have h1 := hr0.len_le
        have h2 := hr0.1
        rw [HRC.out 0 (by have := HM.out.1; omega)] at h2
        unfold lim; omega))
      obtain ⟨hm, ps, hown, hps⟩ := ho.out
      obtain ⟨wA, hwA⟩ : ∃ wA, wA = w1.alloc (.cells #[.slice (some ⟨g1, 0, none⟩) n1 n1] 22) := ⟨_, rfl⟩
      have hbA : Below wr.heap.size wr wA := by rw [hwA]; exact hb1.alloc hb1.size _
      have hbA1 : Below w1.heap.size w1 wA := by rw [hwA]; exact (Below.refl _ _).alloc (Nat.le_refl _) _
      have HOW := Lib.hid (Kp.own (S := fun _ => False) (Kp.of_below hbA) hown (fun _ _ => id))
      have HKA : Hid (Blk wA w1.heap.size 22 #[.slice (some ⟨g1, 0, none⟩) n1 n1]) := Lib.hid (by rw [hwA]; exact Blk.new _ _ _)
      have HSA : Hid (w.heap.size ≤ wA.heap.size) := Lib.hid (Nat.le_trans hb.out.size hbA.size)
      have HBA := Lib.hid hbA
      have HBA1 := Lib.hid hbA1
      have HM' := Lib.hid hm
      have HPS := Lib.hid hps
      have HOWN := Lib.hid hown
      have HG1 := Lib.hid hg1
      have HWA := Lib.hid hwA
      clear hm hown hps hn1 hg1 hk1 hb1 hbA hbA1 hwA
      go_wp2_with (first
        | (at_builtin; rw [← HWA.out]; refine wpList_app1 wA rfl (.tmp 15) (.tmp 20) 30 22 (.slice none 0 0) 24 Try.underlying30 infoBytes rfl rfl w.heap.size u7 k ps rfl HOW.out w1.heap.size 1 22 (.slice (some ⟨g1, 0, none⟩) n1 n1) rfl HKA.out rfl (by omega) (by omega) HSA.out ?_; intro v4 w4 hp4))
      have HR : Hid (OwnM w4 w.heap.size v4 (k + 1) (rencM d (k + 1) m n1) ∧ Below w.heap.size w w4) := by
        have hpl : ps.length = k := by have := HOWN.out.1; simpa using this
        have h5 := OwnM.push HSA.out HM'.out (fun j hj => by
          obtain ⟨A', k', c', p1, p2, p3, p4⟩ := HPS.out j hj
          exact ⟨A', k', c', p1, p2.kept HBA.out, p3, p4⟩) hpl (HBS.out.kept HBA1.out) hL (fun g' o' e e' => by
            injection e with e
            injection e with e
            have := HOWN.out.lt g' e'
            have := HG1.out
            omega) hp4
        rw [← rencM_succ] at h5
        exact Lib.hid ⟨h5, (below_thenB hb.out hb.out.size HBA.out).grown hp4.2.1 HSA.out (fun b hb' => own_base HOWN.out b hb')⟩
      clear hp4
      go_roundw
      case rel => exact ⟨k + 1, by omega, by go_num, Lib.hid HR.out.1, Lib.hid HR.out.2⟩
      case measure => simp [intOf]; omega
    · obtain rfl : k = t := by omega
      go_wp2_with fail
      go_ret
      exact ⟨_, rfl, ho.out, hb.out⟩

/-! The program's sums are the reference's. -/
theorem muladd_get {dst src : List UInt8} {c : UInt8} {i : Nat} (h : dst.length = src.length) (hi : i < src.length) : gB (muladd dst src c) i = mul c (gB src i) ^^^ gB dst i := by
  rw [gB_eq (by rw [muladd_length _ _ _ h]; exact hi), gB_eq hi, gB_eq (by omega)]
  simp [muladd]
theorem comb_get {r : List UInt8} {m : List (List UInt8)} {L : Nat} (hr : Rect m L) {i : Nat} (hi : i < L) : ∀ k, k ≤ m.length → gB (comb r m L k) i = xs1 r m i k
  | 0, _ => by rw [comb, gB_eq (by rw [zeros_length]; exact hi)]; simp [zeros, xs1]
  | k + 1, hk => by
    have ih := comb_get (r := r) hr hi k (by omega)
    have hl := comb_length r m L hr k (by omega)
    have hm : (gR m k).length = L := hr k (by omega)
    simp only [comb, xs1]
    by_cases e : gB r k = 0
    · rw [if_pos e, e, zero_mul, ih]; simp
    · rw [if_neg e, muladd_get (by rw [hl, hm]) (by rw [hm]; exact hi), ih, xor_comm]
theorem comb_pcR {r : List UInt8} {m : List (List UInt8)} {L : Nat} (hr : Rect m L) : comb r m L m.length = pcR r m L := by
  apply List.ext_getElem (by rw [comb_length r m L hr _ (Nat.le_refl _), pcR_length])
  intro i h1 h2
  rw [pcR_length] at h2
  have := comb_get (r := r) hr h2 m.length (Nat.le_refl _)
  rw [gB_eq h1] at this
  rw [this]
  simp [pcR]
theorem encM_eq {d t : Nat} {blocks : List (List UInt8)} {L : Nat} (hr : Rect blocks L) (hn : blocks.length ≤ d) : encM d t blocks L = rencM d t (fillB blocks L d) L := by
  have hR := fillB_rect blocks L d hr hn
  have hl := fillB_length blocks L d hn
  unfold encM rencM cmat
  rw [show (ofM d (List.range t)).length = t by simp [ofM]]
  apply List.map_congr_left
  intro i hi
  have hi' := List.mem_range.1 hi
  have hg : gR (ofM d (List.range t)) i = crw d i := by rw [gR_eq (by simp [ofM]; exact hi')]; simp [ofM]
  rw [crow, if_pos hi', hg, crw_length]
  have := comb_pcR (r := crw d i) hR
  rwa [hl] at this
theorem rencM_take (d t u : Nat) (m : List (List UInt8)) (L : Nat) (h : t ≤ u) : (rencM d u m L).take t = rencM d t m L := by
  unfold rencM
  rw [← List.map_take, List.take_range, Nat.min_eq_left h]
end Go.Proofs.Ytoeeklkebcgmaaa
