/- Contracts of merkle.split, isSum, areSums, count, extent and of the reference's Split and Sums. -/
import Derived.Test.YtgjgofjabdjclaaDoorMer0m
import Derived.Test.YtgjgofjabdjclaaDoorShelf
import Derived.Test.YtgjgofjabdjclaaDoorA12
namespace Go.Proofs.YtgjgofjabdjclaaDoor
open Go Go.RowKit Gf Sha

/-- The greatest power of two below n. -/
def spl (n : Nat) : Nat := 2 ^ (Lib.bitLen (n - 1) - 1)
theorem spl_dec : ∀ n : Fin 257, 2 ≤ n.val → 1 ≤ spl n.val ∧ spl n.val < n.val ∧ n.val ≤ 2 * spl n.val ∧ 1 ≤ Lib.bitLen (n.val - 1) ∧ Lib.bitLen (n.val - 1) ≤ 8 := by decide +kernel
theorem spl_pow : ∀ n : Fin 257, ∀ j : Fin 9, 2 ≤ n.val → 2 ^ j.val ≤ spl n.val → (2 * 2 ^ j.val < n.val → 2 ^ (j.val + 1) ≤ spl n.val ∧ j.val + 1 < 9) ∧ (n.val ≤ 2 * 2 ^ j.val → 2 ^ j.val = spl n.val) := by decide +kernel
theorem spl_parts {n : Nat} (h2 : 2 ≤ n) (h : n ≤ 256) : 1 ≤ spl n ∧ spl n < n ∧ n ≤ 2 * spl n ∧ 1 ≤ Lib.bitLen (n - 1) ∧ Lib.bitLen (n - 1) ≤ 8 := spl_dec ⟨n, by omega⟩ h2

section
variable {P : Program} (w : World) {ops : Array Oper} {rest : List Oper} {o : Oper} {a : Act} {Q : Exit → Act → World → Prop}
theorem wrapI (n : Nat) (h : n < 9223372036854775808) : IntKind.i64.wrap (n : Int) = (n : Int) := by
  show (if (true && decide ((n : Int) % 18446744073709551616 ≥ 9223372036854775808)) = true then (n : Int) % 18446744073709551616 - 18446744073709551616 else (n : Int) % 18446744073709551616) = (n : Int)
  rw [if_neg (by simp; omega)]
  omega
/-- 1 << s as an int. -/
theorem wpList_shlI (hg : o.guard = none) (x y : Operand) (t t2 : TypeId) (hop : o.op = .binOp .shl t x y t2) (s : Nat) (zy : Int) (hx : a.eval x = .int .i64 1) (hy : a.eval y = .int .i64 zy) (hs : zy = (s : Int)) (hs64 : s ≤ 62)
    (h : wpList P ops Q rest (a.put o.dst (.int .i64 ((2 ^ s : Nat) : Int))) w) : wpList P ops Q (o :: rest) a w :=
  wpList_plain hg fun K hK => by
    subst hs
    have e : ∀ w', (binOp .shl t (.int .i64 1) (.int .i64 (s : Int))).run P w' = .ok (.int .i64 ((2 ^ s : Nat) : Int)) w' := fun w' => by
      have e3 : (1 : Int) * 2 ^ min (s : Int).toNat IntKind.i64.bits = ((2 ^ s : Nat) : Int) := by
        rw [Int.toNat_natCast, Nat.min_eq_left (by show s ≤ 64; omega), Int.one_mul, Int.natCast_pow]; rfl
      show (Op.shift .shl .i64 1 .i64 (s : Int)).run P w' = _
      unfold Op.shift
      rw [if_neg (by omega)]
      show Result.ok (Value.int IntKind.i64 (IntKind.i64.wrap _)) w' = _
      rw [e3]
      have hb : 2 ^ s ≤ 2 ^ 62 := Nat.pow_le_pow_right (by omega) hs64
      have hw : IntKind.i64.wrap ((2 ^ s : Nat) : Int) = ((2 ^ s : Nat) : Int) := by
        refine wrapI _ (Nat.lt_of_le_of_lt hb (by decide))
      rw [hw]
    unfold Oper.wp execOp
    simp only [hop, hx, hy]
    simp [eqGuard, Result.andThen, e]
    exact hK _ _ (by simpa using h)
/-- x / y for ints that are casts. -/
theorem wpList_quoN (hg : o.guard = none) (x y : Operand) (t t2 : TypeId) (hop : o.op = .binOp .quo t x y t2) (X Y : Nat) (zx zy : Int) (hx : a.eval x = .int .i64 zx) (hy : a.eval y = .int .i64 zy) (hX : zx = (X : Int)) (hY : zy = (Y : Int)) (hY0 : 0 < Y) (hb : X < 9223372036854775808)
    (h : wpList P ops Q rest (a.put o.dst (.int .i64 ((X / Y : Nat) : Int))) w) : wpList P ops Q (o :: rest) a w :=
  wpList_plain hg fun K hK => by
    subst hX hY
    have e : ∀ w', (binOp .quo t (.int .i64 (X : Int)) (.int .i64 (Y : Int))).run P w' = .ok (.int .i64 ((X / Y : Nat) : Int)) w' := fun w' => by
      have hne : ¬ Y = 0 := by omega
      show (Op.intDiv .quo .i64 (X : Int) (Y : Int)).run P w' = _
      unfold Op.intDiv
      simp [hne]
      have h5 : X / Y ≤ X := Nat.div_le_self _ _
      rw [show (X : Int) / (Y : Int) = ((X / Y : Nat) : Int) by simp]
      exact wrapI _ (by omega)
    unfold Oper.wp execOp
    simp only [hop, hx, hy]
    simp [eqGuard, Result.andThen, e]
    exact hK _ _ (by simpa using h)
end

theorem split_any (n : Nat) (w : World) (h2 : 2 ≤ n) (h : n ≤ 256) :
    Calls Tryd.prog 96 #[.int .i64 (n : Int)] w fun e w' => e = .returned (.int .i64 (spl n : Int)) ∧ w' = w := by
  obtain ⟨s1, s2, s3, s4, s5⟩ := spl_parts h2 h
  obtain ⟨b, hb⟩ : ∃ b, b = Lib.bitLen (n - 1) := ⟨_, rfl⟩
  have HB : Hid ((Lib.bitLen ((n : Int) - 1).toNat : Int) = (b : Int)) := Lib.hid (by rw [show ((n : Int) - 1).toNat = n - 1 by omega, hb])
  have HE : Hid (spl n = 2 ^ (b - 1)) := Lib.hid (by rw [hb]; rfl)
  rw [← hb] at s4 s5
  have HR : Hid ((b : Int) - 1 = ((b - 1 : Nat) : Int)) := Lib.hid (by omega)
  have H6 : Hid (b - 1 ≤ 62) := Lib.hid (by omega)
  clear hb s1 s2 s3
  go_enter Tryd.func96, Tryd.ntmps96
  go_wp2_with (first
    | (go_at_call 78; refine (Tryd.bits_Len _ w (by omega) (by omega)).mono ?_; rintro e w1 ⟨rfl, rfl⟩; rw [HB.out])
    | ((with_reducible show wpList _ _ _ (⟨some 8, _, _, _, _, _⟩ :: _) _ _); refine wpList_shlI _ rfl _ (.tmp 7) _ _ rfl (b - 1) _ rfl rfl HR.out H6.out ?_))
  go_ret
  exact ⟨by rw [HE.out]; rfl, rfl⟩

theorem rsplit_any (n : Nat) (w : World) (h2 : 2 ≤ n) (h : n ≤ 256) :
    Calls Tryd.prog 126 #[.int .i64 (n : Int)] w fun e w' => e = .returned (.int .i64 (spl n : Int)) ∧ w' = w := by
  obtain ⟨s1, s2, s3, s4, s5⟩ := spl_parts h2 h
  have HSP : Hid (∀ j : Nat, j < 9 → 2 ^ j ≤ spl n → (2 * 2 ^ j < n → 2 ^ (j + 1) ≤ spl n ∧ j + 1 < 9) ∧ (n ≤ 2 * 2 ^ j → 2 ^ j = spl n)) := Lib.hid (fun j hj hp => spl_pow ⟨n, by omega⟩ ⟨j, hj⟩ h2 hp)
  clear s4 s5
  go_enter Tryd.func126, Tryd.ntmps126
  go_wp2_with fail
  go_loopw [3] (fun v wr => wr = w ∧ ∃ k j : Nat, v = .int .i64 (k : Int) ∧ 1 ≤ k ∧ k < n ∧ k ≤ spl n ∧ Hid (k = 2 ^ j ∧ j < 9)) (fun v _ => 256 - (intOf v).toNat)
  case atStart => exact ⟨rfl, 1, 0, rfl, by omega, by omega, s1, Lib.hid ⟨rfl, by omega⟩⟩
  case round =>
    obtain ⟨rfl, k, j, rfl, hk1, hkn, hks, hkj⟩ := hrel
    obtain ⟨p1, p2⟩ := HSP.out j hkj.out.2 (by rw [← hkj.out.1]; exact hks)
    rw [← hkj.out.1] at p1 p2
    rw [Nat.pow_succ, ← hkj.out.1] at p1
    by_cases hlt : 2 * k < n
    · obtain ⟨p3, p4⟩ := p1 hlt
      have hlt2 : (k : Int) < (n : Int) - (k : Int) := by omega
      have HK : Hid (k * 2 = 2 ^ (j + 1) ∧ j + 1 < 9) := Lib.hid ⟨by rw [Nat.pow_succ, ← hkj.out.1], p4⟩
      clear p1 p2 p4
      go_wp2_with fail
      go_roundw
      case rel => exact ⟨trivial, k * 2, j + 1, by go_num, by omega, by omega, p3, HK⟩
      case measure => simp [intOf]; omega
    · have hlt2 : ¬ (k : Int) < (n : Int) - (k : Int) := by omega
      have HQ := Lib.hid (p2 (by omega))
      clear p1 p2
      go_wp2_with fail
      go_ret
      exact ⟨by rw [← HQ.out]; rfl, rfl⟩

theorem isSum_any (s : List UInt8) (w : World) :
    Calls Tryd.prog 88 #[.string (strB s)] w fun e w' => e = .returned (.bool (decide (s.length = 32))) ∧ w' = w := by
  have e1 : (((strB s).size : Int) == 32) = decide (s.length = 32) := by
    rw [strB_size]
    by_cases h : s.length = 32
    · rw [h]; rfl
    · rw [decide_eq_false h]; simpa using (by omega : ¬ (s.length : Int) = 32)
  go_enter Tryd.func88, Tryd.ntmps88
  go_wp2_with fail
  go_ret
  exact ⟨rfl, rfl⟩

/-- All of these are sums. -/
def sumsB (m : List (List UInt8)) : Bool := m.all fun s => decide (s.length = 32)
theorem sums_false {m : List (List UInt8)} {k : Nat} (hk : k < m.length) (h : (gR m k).length ≠ 32) : sumsB m = false := by
  rw [gR_eq hk] at h
  rw [sumsB, List.all_eq_false]
  exact ⟨m[k], List.getElem_mem hk, by simpa using h⟩
theorem sums_true {m : List (List UInt8)} (h : ∀ k, k < m.length → (gR m k).length = 32) : sumsB m = true := by
  rw [sumsB, List.all_eq_true]
  intro x hx
  obtain ⟨i, hi, rfl⟩ := List.getElem_of_mem hx
  have := h i hi
  rw [gR_eq hi] at this
  simpa using this

set_option maxHeartbeats 400000 in
theorem areSums_any (A : Option Addr) (n c : Nat) (m : List (List UInt8)) (w : World) (h : TS w A n c m) :
    Calls Tryd.prog 115 #[.slice A n c] w fun e w' => e = .returned (.bool (sumsB m)) ∧ w' = w := by
  have hn : n * 16 ≤ 140737488355328 := by have := h.2.2.1; unfold lim at this; omega
  have H := Lib.hid h
  clear h
  go_enter Tryd.func115, Tryd.ntmps115
  go_wp2_with fail
  go_loopw [7] (fun iv wr => wr = w ∧ ∃ k : Nat, k ≤ n ∧ iv = .int .i64 (k : Int) ∧ Hid (∀ j, j < k → (gR m j).length = 32)) (fun iv _ => n - (intOf iv).toNat)
  case atStart => exact ⟨rfl, 0, by omega, rfl, Lib.hid (fun j hj => absurd hj (by omega))⟩
  case round =>
    obtain ⟨rfl, k, hk, rfl, hall⟩ := hrel
    by_cases hlt : k < n
    · obtain ⟨g, o, rfl, q1⟩ := H.out.at_ (Below.refl _ _) hlt
      by_cases h32 : (gR m k).length = 32
      · have hd := decide_eq_true h32
        have HH := Lib.hid h32
        clear h32
        go_wp2_with (go_at_call 88; refine (isSum_any (gR m k) _).mono ?_; rintro e w1 ⟨rfl, rfl⟩; rw [hd])
        go_roundw
        case rel => exact ⟨trivial, k + 1, by omega, by go_num, Lib.hid (fun j hj => by
          rcases Nat.lt_succ_iff_lt_or_eq.1 hj with h | rfl
          · exact hall.out j h
          · exact HH.out)⟩
        case measure => simp [intOf]; omega
      · have hd := decide_eq_false h32
        have HH := Lib.hid h32
        clear h32
        go_wp2_with (go_at_call 88; refine (isSum_any (gR m k) _).mono ?_; rintro e w1 ⟨rfl, rfl⟩; rw [hd])
        go_ret
        exact ⟨ret_bool (sums_false (by rw [H.out.1]; exact hlt) HH.out).symm, rfl⟩
    · obtain rfl : k = n := by omega
      go_wp2_with fail
      go_ret
      exact ⟨ret_bool (sums_true (by rw [H.out.1]; exact hall.out)).symm, rfl⟩

set_option maxHeartbeats 400000 in
theorem rsums_any (A : Option Addr) (n c : Nat) (m : List (List UInt8)) (w : World) (h : TS w A n c m) :
    Calls Tryd.prog 27 #[.slice A n c] w fun e w' => e = .returned (.bool (sumsB m)) ∧ w' = w := by
  have hn : n * 16 ≤ 140737488355328 := by have := h.2.2.1; unfold lim at this; omega
  have H := Lib.hid h
  clear h
  go_enter Tryd.func27, Tryd.ntmps27
  go_wp2_with fail
  go_loopw [7] (fun iv wr => wr = w ∧ ∃ k : Nat, k ≤ n ∧ iv = .int .i64 (k : Int) ∧ Hid (∀ j, j < k → (gR m j).length = 32)) (fun iv _ => n - (intOf iv).toNat)
  case atStart => exact ⟨rfl, 0, by omega, rfl, Lib.hid (fun j hj => absurd hj (by omega))⟩
  case round =>
    obtain ⟨rfl, k, hk, rfl, hall⟩ := hrel
    by_cases hlt : k < n
    · obtain ⟨g, o, rfl, q1⟩ := H.out.at_ (Below.refl _ _) hlt
      by_cases h32 : (gR m k).length = 32
      · have hd : (((strB (gR m k)).size : Int) != 32) = false := by rw [strB_size, h32]; rfl
        have HH := Lib.hid h32
        clear h32
        go_wp2_with fail
        go_roundw
        case rel => exact ⟨trivial, k + 1, by omega, by go_num, Lib.hid (fun j hj => by
          rcases Nat.lt_succ_iff_lt_or_eq.1 hj with h | rfl
          · exact hall.out j h
          · exact HH.out)⟩
        case measure => simp [intOf]; omega
      · have hd : (((strB (gR m k)).size : Int) != 32) = true := by rw [strB_size]; simpa using (by omega : ¬ ((gR m k).length : Int) = 32)
        have HH := Lib.hid h32
        clear h32
        go_wp2_with fail
        go_ret
        exact ⟨ret_bool (sums_false (by rw [H.out.1]; exact hlt) HH.out).symm, rfl⟩
    · obtain rfl : k = n := by omega
      go_wp2_with fail
      go_ret
      exact ⟨ret_bool (sums_true (by rw [H.out.1]; exact hall.out)).symm, rfl⟩

theorem count_any (n size : Nat) (w : World) (h1 : 1 ≤ n) (h : n < 9223372036854775808) (hs : 1 ≤ size) (hs2 : size < 9223372036854775808) :
    Calls Tryd.prog 82 #[.int .i64 (n : Int), .int .i64 (size : Int)] w fun e w' => e = .returned (.int .i64 (((n - 1) / size + 1 : Nat) : Int)) ∧ w' = w := by
  have HR : Hid ((n : Int) - 1 = ((n - 1 : Nat) : Int)) := Lib.hid (by omega)
  have HQ : (n - 1) / size < 9223372036854775807 := by have := Nat.div_le_self (n - 1) size; omega
  obtain ⟨q, hq⟩ : ∃ q, q = (n - 1) / size := ⟨_, rfl⟩
  rw [← hq] at HQ ⊢
  have HQD := Lib.hid hq.symm
  clear hq
  go_enter Tryd.func82, Tryd.ntmps82
  go_wp2_with ((with_reducible show wpList _ _ _ (⟨some 10, _, _, _, _, _⟩ :: _) _ _); refine wpList_quoN _ rfl (.tmp 8) (.tmp 9) _ _ rfl (n - 1) size _ _ rfl rfl HR.out rfl (by omega) (by omega) ?_; rw [HQD.out])
  go_ret
  exact ⟨by go_num, rfl⟩

theorem blocksOf_any (n size : Nat) (w : World) (h1 : 1 ≤ n) (h : n < 9223372036854775808) (hs : 1 ≤ size) (hs2 : size < 9223372036854775808) :
    Calls Tryd.prog 61 #[.int .i64 (n : Int), .int .i64 (size : Int)] w fun e w' => e = .returned (.int .i64 (((n - 1) / size + 1 : Nat) : Int)) ∧ w' = w := by
  have HR : Hid ((n : Int) - 1 = ((n - 1 : Nat) : Int)) := Lib.hid (by omega)
  have HQ : (n - 1) / size < 9223372036854775807 := by have := Nat.div_le_self (n - 1) size; omega
  obtain ⟨q, hq⟩ : ∃ q, q = (n - 1) / size := ⟨_, rfl⟩
  rw [← hq] at HQ ⊢
  have HQD := Lib.hid hq.symm
  clear hq
  go_enter Tryd.func61, Tryd.ntmps61
  go_wp2_with ((with_reducible show wpList _ _ _ (⟨_, .binOp .quo _ _ _ _, _, _, _, _⟩ :: _) _ _); refine wpList_quoN _ rfl _ _ _ _ rfl (n - 1) size _ _ rfl rfl HR.out rfl (by omega) (by omega) ?_; rw [HQD.out])
  go_ret
  exact ⟨by go_num, rfl⟩

theorem extent_any (n size b : Nat) (w : World) (h1 : 1 ≤ n) (h : n < 9223372036854775808) (hs : 1 ≤ size) (hs2 : size < 9223372036854775808) (_ : b < 9223372036854775808) (hbs : b * size < n) :
    Calls Tryd.prog 83 #[.int .i64 (n : Int), .int .i64 (size : Int), .int .i64 (b : Int)] w fun e w' => e = .returned (.int .i64 ((min size (n - b * size) : Nat) : Int)) ∧ w' = w := by
  obtain ⟨q, hq⟩ : ∃ q, q = b * size := ⟨_, rfl⟩
  have hm : (b : Int) * (size : Int) = (q : Int) := by rw [hq, Int.natCast_mul]
  rw [← hq] at hbs ⊢
  clear hq
  by_cases hc : size ≤ n - q
  · have e1 : min (size : Int) ((n : Int) - (q : Int)) = (size : Int) := by omega
    rw [Nat.min_eq_left hc]
    go_enter Tryd.func83, Tryd.ntmps83
    go_wp2_with fail
    go_ret
    exact ⟨rfl, rfl⟩
  · have e1 : min (size : Int) ((n : Int) - (q : Int)) = (n : Int) - (q : Int) := by omega
    rw [Nat.min_eq_right (by omega)]
    go_enter Tryd.func83, Tryd.ntmps83
    go_wp2_with fail
    go_ret
    exact ⟨by go_num, rfl⟩
end Go.Proofs.YtgjgofjabdjclaaDoor
