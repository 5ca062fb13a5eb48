/- Several texts in one: Ce, Cf, Cg. -/
import Derived.Test.YtboglaokdgnpaaaA9
/- The reference's bytes, IsUnneeded, IsSparse, Uncovered. -/
namespace Go.Proofs.Ytboglaokdgnpaaa
open Go Go.RowKit Gf Sha

/-- The sizes of refs are those of chunks. -/
def szOk (l : List Rf) : Prop := l.length ≤ 1000 ∧ ∀ r ∈ l, 0 ≤ r.2.2 ∧ r.2.2 ≤ 32768
theorem sizes_snoc (l : List Rf) (r : Rf) : sizes (l ++ [r]) = sizes l + r.2.2 := by simp [sizes, List.foldl_append]
theorem sizes_bound : ∀ (k : Nat) (l : List Rf), l.length = k → (∀ r ∈ l, 0 ≤ r.2.2 ∧ r.2.2 ≤ 32768) → 0 ≤ sizes l ∧ sizes l ≤ 32768 * k := by
 intro k
 induction k with
 | zero =>
  intro l hl _
  rw [List.eq_nil_of_length_eq_zero hl]; simp [sizes]
 | succ k ih =>
  intro l hl h
  have hne : l ≠ [] := by intro e; rw [e] at hl; cases hl
  have e := List.dropLast_concat_getLast hne
  have h1 := ih l.dropLast (by rw [List.length_dropLast, hl]; rfl) (fun r hr => h r ((List.dropLast_prefix l).subset hr))
  have h2 := h _ (List.getLast_mem hne)
  rw [← e, sizes_snoc]
  omega
theorem szOk.bound {l : List Rf} (h : szOk l) : 0 ≤ sizes l ∧ sizes l ≤ 32768000 := by
 have := sizes_bound l.length l rfl h.2
 have := h.1
 omega
theorem szOk.filter {l : List Rf} (h : szOk l) (p : Rf → Bool) : szOk (l.filter p) := ⟨Nat.le_trans (List.length_filter_le _ _) h.1, fun r hr => h.2 r (List.mem_filter.1 hr).1⟩

end Go.Proofs.Ytboglaokdgnpaaa
/- Ascending sums, of the program and of the reference; the reference's Uncovered. -/
namespace Go.Proofs.Ytboglaokdgnpaaa
open Go Go.RowKit Gf Sha

def ascAt (m : List (List UInt8)) (k : Nat) : Bool := decide ((gR m k).length = 32) && (decide (k = 0) || Op.bytesLess (gR m (k - 1)) (gR m k))
/-- Strictly ascending sums. -/
def ascB (m : List (List UInt8)) : Bool := (List.range m.length).all (ascAt m)
theorem asc_false {m : List (List UInt8)} {k : Nat} (hk : k < m.length) (h : ascAt m k = false) : ascB m = false := List.all_eq_false.2 ⟨k, List.mem_range.2 hk, by simp [h]⟩
theorem asc_true {m : List (List UInt8)} (h : ∀ k, k < m.length → ascAt m k = true) : ascB m = true := List.all_eq_true.2 fun k hk => h k (List.mem_range.1 hk)
theorem gR_some {m : List (List UInt8)} {k : Nat} {x : List UInt8} (h : m[k]? = some x) : gR m k = x := by rw [gR, List.getD_eq_getElem?_getD, h]; rfl

theorem geq_text {P : Program} {x y : List UInt8} {b : Bool} (h : Op.bytesLess (strB y).toList (strB x).toList = b) {w : World} : Sem.run P (binOp BinOp.geq 9 (Value.string (strB y)) (Value.string (strB x))) w = .ok (.bool (!b)) w := by subst h; rfl

set_option maxHeartbeats 1000000 in
theorem rsums_any (A : Option Addr) (n c : Nat) (m : List (List UInt8)) (w : World) (h : LS rStr 1 16 w A n c m) :
  Calls Try.prog 42 #[.slice A n c] w fun e w' => e = .returned (.bool (ascB m)) ∧ w' = w := by
 have hn := h.len_le
 have H := Lib.hid h
 have HL := Lib.hid h.1
 clear h
 go_enter Try.func42, Try.ntmps42
 go_wp2_with fail
 go_loopw [7] (fun iv wr => wr = w ∧ ∃ k : Nat, k ≤ n ∧ iv = .int .i64 (k : Int) ∧ Hid (∀ j, j < k → ascAt m j = true)) (fun iv _ => n - (intOf iv).toNat)
 case atStart => exact ⟨rfl, 0, by omega, rfl, Lib.hid (fun j hj => absurd hj (by omega))⟩
 case round =>
  obtain ⟨rfl, k, hk, rfl, hall⟩ := hrel
  by_cases hlt : k < n
  ·
   obtain ⟨x, g, o, hx, rfl, q1⟩ := H.out.str_at (Below.refl _ _) hlt
   have HX := Lib.hid (gR_some hx)
   have HKL : Hid (k < m.length) := Lib.hid (by rw [HL.out]; exact hlt)
   clear hx
   by_cases hs : x.length = 32
   ·
    have es : (((strB x).size : Int) != 32) = false := by rw [strB_size, hs]; rfl
    rcases Nat.eq_zero_or_pos k with rfl | hp
    ·
     have HR : Hid (ascAt m 0 = true) := Lib.hid (by rw [ascAt, HX.out, decide_eq_true hs]; rfl)
     clear hs
     simp only [Nat.add_zero] at q1
     go_wp2_with fail
     go_roundw
     case rel => exact ⟨trivial, 1, by omega, rfl, Lib.hid (fun j hj => by
      obtain rfl : j = 0 := by omega
      exact HR.out)⟩
     case measure => simp [intOf]; omega
    ·
     obtain ⟨j, hj⟩ : ∃ j, j = k - 1 := ⟨_, rfl⟩
     obtain ⟨y, g', o', hy, e', q2⟩ := H.out.str_at (Below.refl _ _) (show j < n by omega)
     cases e'
     have HY : Hid (gR m (k - 1) = y) := Lib.hid (by rw [← hj]; exact gR_some hy)
     have hj1 : (k : Int) - 1 = (j : Int) := by omega
     have hkp : decide ((0 : Int) < (k : Int)) = true := decide_eq_true (by omega)
     have hkn : decide (0 < k) = true := decide_eq_true (by omega)
     have hk0 : ¬ k = 0 := by omega
     cases hb : Op.bytesLess y x with
     | true =>
      have el : Op.bytesLess (strB y).toList (strB x).toList = true := by rw [strB_list, strB_list]; exact hb
      have HR : Hid (ascAt m k = true) := Lib.hid (by rw [ascAt, HX.out, HY.out, decide_eq_true hs, hb]; simp)
      clear hs hy hb hj hp hk0
      go_wp2_with fail
      rw [geq_text el]
      go_simp
      go_wp2_with fail
      go_roundw
      case rel => exact ⟨trivial, k + 1, by omega, by go_num, Lib.hid (fun i hi => by
       rcases Nat.lt_succ_iff_lt_or_eq.1 hi with h | rfl
       ·
        exact hall.out i h
       ·
        exact HR.out)⟩
      case measure => simp [intOf]; omega
     | false =>
      have el : Op.bytesLess (strB y).toList (strB x).toList = false := by rw [strB_list, strB_list]; exact hb
      have HR : Hid (ascB m = false) := Lib.hid (asc_false HKL.out (by rw [ascAt, HX.out, HY.out, hb]; simp [hk0]))
      clear hs hy hb hj hp hk0
      go_wp2_with fail
      rw [geq_text el]
      go_simp
      go_wp2_with fail
      go_ret
      exact ⟨ret_bool HR.out.symm, rfl⟩
   ·
    have es : (((strB x).size : Int) != 32) = true := by rw [strB_size, bne_iff_ne]; omega
    have HR : Hid (ascB m = false) := Lib.hid (asc_false HKL.out (by rw [ascAt, HX.out, decide_eq_false hs]; rfl))
    clear hs
    go_wp2_with fail
    go_ret
    exact ⟨ret_bool HR.out.symm, rfl⟩
  ·
   obtain rfl : k = n := by omega
   have HR : Hid (ascB m = true) := Lib.hid (asc_true (by rw [HL.out]; exact hall.out))
   go_wp2_with fail
   go_ret
   exact ⟨ret_bool HR.out.symm, rfl⟩
set_option maxHeartbeats 1000000 in
theorem ascending_any (A : Option Addr) (n c : Nat) (m : List (List UInt8)) (w : World) (h : LS rStr 1 16 w A n c m) :
  Calls Try.prog 70 #[.slice A n c] w fun e w' => e = .returned (.bool (ascB m)) ∧ w' = w := by
 have hn := h.len_le
 have H := Lib.hid h
 have HL := Lib.hid h.1
 clear h
 go_enter Try.func70, Try.ntmps70
 go_wp2_with fail
 go_loopw [7] (fun iv wr => wr = w ∧ ∃ k : Nat, k ≤ n ∧ iv = .int .i64 (k : Int) ∧ Hid (∀ j, j < k → ascAt m j = true)) (fun iv _ => n - (intOf iv).toNat)
 case atStart => exact ⟨rfl, 0, by omega, rfl, Lib.hid (fun j hj => absurd hj (by omega))⟩
 case round =>
  obtain ⟨rfl, k, hk, rfl, hall⟩ := hrel
  by_cases hlt : k < n
  ·
   obtain ⟨x, g, o, hx, rfl, q1⟩ := H.out.str_at (Below.refl _ _) hlt
   have HX := Lib.hid (gR_some hx)
   have HKL : Hid (k < m.length) := Lib.hid (by rw [HL.out]; exact hlt)
   clear hx
   by_cases hs : x.length = 32
   ·
    have es : (((strB x).size : Int) != 32) = false := by rw [strB_size, hs]; rfl
    rcases Nat.eq_zero_or_pos k with rfl | hp
    ·
     have HR : Hid (ascAt m 0 = true) := Lib.hid (by rw [ascAt, HX.out, decide_eq_true hs]; rfl)
     clear hs
     simp only [Nat.add_zero] at q1
     go_wp2_with fail
     go_roundw
     case rel => exact ⟨trivial, 1, by omega, rfl, Lib.hid (fun j hj => by
      obtain rfl : j = 0 := by omega
      exact HR.out)⟩
     case measure => simp [intOf]; omega
    ·
     obtain ⟨j, hj⟩ : ∃ j, j = k - 1 := ⟨_, rfl⟩
     obtain ⟨y, g', o', hy, e', q2⟩ := H.out.str_at (Below.refl _ _) (show j < n by omega)
     cases e'
     have HY : Hid (gR m (k - 1) = y) := Lib.hid (by rw [← hj]; exact gR_some hy)
     have hj1 : (k : Int) - 1 = (j : Int) := by omega
     have hkp : decide ((0 : Int) < (k : Int)) = true := decide_eq_true (by omega)
     have hkn : decide (0 < k) = true := decide_eq_true (by omega)
     have hk0 : ¬ k = 0 := by omega
     cases hb : Op.bytesLess y x with
     | true =>
      have el : Op.bytesLess (strB y).toList (strB x).toList = true := by rw [strB_list, strB_list]; exact hb
      have HR : Hid (ascAt m k = true) := Lib.hid (by rw [ascAt, HX.out, HY.out, decide_eq_true hs, hb]; simp)
      clear hs hy hb hj hp hk0
      go_wp2_with fail
      rw [geq_text el]
      go_simp
      go_wp2_with fail
      go_roundw
      case rel => exact ⟨trivial, k + 1, by omega, by go_num, Lib.hid (fun i hi => by
       rcases Nat.lt_succ_iff_lt_or_eq.1 hi with h | rfl
       ·
        exact hall.out i h
       ·
        exact HR.out)⟩
      case measure => simp [intOf]; omega
     | false =>
      have el : Op.bytesLess (strB y).toList (strB x).toList = false := by rw [strB_list, strB_list]; exact hb
      have HR : Hid (ascB m = false) := Lib.hid (asc_false HKL.out (by rw [ascAt, HX.out, HY.out, hb]; simp [hk0]))
      clear hs hy hb hj hp hk0
      go_wp2_with fail
      rw [geq_text el]
      go_simp
      go_wp2_with fail
      go_ret
      exact ⟨ret_bool HR.out.symm, rfl⟩
   ·
    have es : (((strB x).size : Int) != 32) = true := by rw [strB_size, bne_iff_ne]; omega
    have HR : Hid (ascB m = false) := Lib.hid (asc_false HKL.out (by rw [ascAt, HX.out, decide_eq_false hs]; rfl))
    clear hs
    go_wp2_with fail
    go_ret
    exact ⟨ret_bool HR.out.symm, rfl⟩
  ·
   obtain rfl : k = n := by omega
   have HR : Hid (ascB m = true) := Lib.hid (asc_true (by rw [HL.out]; exact hall.out))
   go_wp2_with fail
   go_ret
   exact ⟨ret_bool HR.out.symm, rfl⟩
end Go.Proofs.Ytboglaokdgnpaaa
/- The reference's Uncovered. -/
namespace Go.Proofs.Ytboglaokdgnpaaa
open Go Go.RowKit Gf Sha

/-- A list of strings of the call's own. -/
def StrR (l : List (List UInt8)) (w : World) (e : Ending) (w' : World) : Prop := ∃ A c, e = .returned (.slice A l.length c) ∧ LS rStr 1 16 w' A l.length c l ∧ Below w.heap.size w w'
theorem bslStr (x : List UInt8) (w : World) : (Instr.buildSlice 23 1 #[(0, .string (strB x))]).run Try.prog w = .ok (.slice (some ⟨w.heap.size, 0, none⟩) 1 1) (w.alloc (.cells [.string (strB x)].toArray 9)) := by kernel_rfl
theorem one_str (x : List UInt8) : ∀ v ∈ [Value.string (strB x)], v.oneCell' = true := fun v hv => by
 simp only [List.mem_singleton] at hv
 rw [hv]; rfl
theorem LS.str_ok {w : World} {A : Option Addr} {n c : Nat} {m : List (List UInt8)} (h : LS rStr 1 16 w A n c m) {k : Nat} {x : List UInt8} (hk : m[k]? = some x) : x.length ≤ reachBytes := by
 have hl : k < n := by
  have := (List.getElem?_eq_some_iff.1 hk).1
  rw [h.1] at this; exact this
 obtain ⟨y, g, o, cs, hx, e, hat, rfl, h2⟩ := h.at_ stay_str (Below.refl _ _) hl
 rw [hk] at hx
 cases hx
 exact h2

end Go.Proofs.Ytboglaokdgnpaaa
