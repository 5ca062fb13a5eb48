/- Several texts in one: Cl, Cm, Cn, Co9. -/
import Derived.Test.YtboglaokdgnpaaaA12
/- ref11.Need, ref08.Valid. -/
namespace Go.Proofs.Ytboglaokdgnpaaa
open Go Go.RowKit Gf Sha

theorem wrap_u64 (n : Nat) (h : n < 9223372036854775808) : IntKind.u64.wrap (n : Int) = (n : Int) := by
 show (n : Int) % 18446744073709551616 = _; omega
/-- The length without padding. -/
def needN (n : Nat) : Nat := (uv n).length + n + 16
set_option maxHeartbeats 1000000 in
theorem rneed_any (n : Nat) (w : World) (hn : n ≤ 65536) :
  Calls Try.prog 115 #[.int .i64 (n : Int)] w fun e w' => e = .returned (.int .i64 (needN n : Int)) ∧ Below w.heap.size w w' := by
 have HU := Lib.hid (uv_length n)
 have HC := Lib.hid (rnum_any n w (by omega))
 have h0 : IntKind.u64.wrap (n : Int) = (n : Int) := wrap_u64 n (by omega)
 go_enter Try.func115, Try.ntmps115
 go_wp2_with (first
  | (go_at_call 124; refine HC.out.mono ?_; rintro e w1 ⟨⟨g, m, c, rfl, hm, _⟩, b1⟩; have HM := Lib.hid hm; have hm1 : m ≤ 11 := (by have := HU.out; omega); have HB := Lib.hid b1; clear b1 hm)
  | fail)
 go_ret
 exact ⟨by rw [needN, ← HM.out]; rfl, HB.out⟩

/-- A code's numbers. -/
def cdB (d t : Int) : Bool := decide (1 ≤ d) && (decide (d ≤ 8) && (decide (d ≤ t) && decide (t ≤ 16)))
set_option maxHeartbeats 1000000 in
theorem rcode_any (d t : Int) (w : World) :
  Calls Try.prog 98 #[.int .i64 d, .int .i64 t] w fun e w' => e = .returned (.bool (cdB d t)) ∧ w' = w := by
 by_cases h1 : 1 ≤ d
 ·
  have e1 : decide (1 ≤ d) = true := decide_eq_true h1
  by_cases h2 : d ≤ 8
  ·
   have e2 : decide (d ≤ 8) = true := decide_eq_true h2
   by_cases h3 : d ≤ t
   ·
    have e3 : decide (d ≤ t) = true := decide_eq_true h3
    have HR : Hid (cdB d t = decide (t ≤ 16)) := Lib.hid (by rw [cdB, e1, e2, e3]; rfl)
    clear h1 h2 h3
    go_enter Try.func98, Try.ntmps98
    go_wp2_with fail
    go_ret
    exact ⟨ret_bool HR.out.symm, rfl⟩
   ·
    have e3 : decide (d ≤ t) = false := decide_eq_false h3
    have HR : Hid (cdB d t = false) := Lib.hid (by rw [cdB, e1, e2, e3]; rfl)
    clear h1 h2 h3
    go_enter Try.func98, Try.ntmps98
    go_wp2_with fail
    go_ret
    exact ⟨ret_bool HR.out.symm, rfl⟩
  ·
   have e2 : decide (d ≤ 8) = false := decide_eq_false h2
   have HR : Hid (cdB d t = false) := Lib.hid (by rw [cdB, e1, e2]; rfl)
   clear h1 h2
   go_enter Try.func98, Try.ntmps98
   go_wp2_with fail
   go_ret
   exact ⟨ret_bool HR.out.symm, rfl⟩
 ·
  have e1 : decide (1 ≤ d) = false := decide_eq_false h1
  have HR : Hid (cdB d t = false) := Lib.hid (by rw [cdB, e1]; rfl)
  clear h1
  go_enter Try.func98, Try.ntmps98
  go_wp2_with fail
  go_ret
  exact ⟨ret_bool HR.out.symm, rfl⟩
end Go.Proofs.Ytboglaokdgnpaaa
/- ref11.ClassOf: the size classes. -/
namespace Go.Proofs.Ytboglaokdgnpaaa
open Go Go.RowKit Gf Sha

/-- The classes in ascending order. -/
def clsAt (t : Nat) : Nat := 2 ^ (t / 4) * (64 + 16 * (t % 4))
def clsG : Nat → Nat → Nat → Nat
 | 0, t, _ => clsAt t
 | f + 1, t, n => if n ≤ clsAt t then clsAt t else clsG f (t + 1) n
/-- The least class that is at least n. -/
def clsOf (n : Nat) : Nat := clsG 44 0 n
theorem clsAt_eq (q b : Nat) (hb : b < 4) : clsAt (4 * q + b) = 64 * 2 ^ q + 16 * 2 ^ q * b := by
 rw [clsAt, show (4 * q + b) / 4 = q by omega, show (4 * q + b) % 4 = b by omega, Nat.mul_add, Nat.mul_comm 64, Nat.mul_comm (2 ^ q) (16 * b), Nat.mul_right_comm 16]
theorem clsG_hit {f t n : Nat} (h : n ≤ clsAt t) : clsG f t n = clsAt t := by
 cases f with
 | zero => rfl
 | succ f => rw [clsG, if_pos h]
theorem clsG_miss {f t n : Nat} (h : ¬ n ≤ clsAt t) : clsG (f + 1) t n = clsG f (t + 1) n := by rw [clsG, if_neg h]
theorem pow10 {q : Nat} (h : 2 ^ q < 1024) : q < 10 := by
 rcases Nat.lt_or_ge q 10 with h1 | h1
 ·
  exact h1
 ·
  have := Nat.pow_le_pow_right (n := 2) (by decide) h1
  omega
set_option maxHeartbeats 2000000 in
theorem rclass_any (n : Nat) (w : World) (hn : n ≤ 65536) :
  Calls Try.prog 114 #[.int .i64 (n : Int)] w fun e w' => e = .returned (.int .i64 (clsOf n : Int)) ∧ w' = w := by
 go_enter Try.func114, Try.ntmps114
 go_wp2_with fail
 go_loopw [3] (fun iv wr => wr = w ∧ ∃ q bs : Nat, q ≤ 10 ∧ bs ≤ 65536 ∧ iv = .int .i64 (bs : Int) ∧ Hid (64 ≤ bs ∧ bs = 64 * 2 ^ q) ∧ Hid (clsG (44 - 4 * q) (4 * q) n = clsOf n)) (fun iv _ => 200000 - (intOf iv).toNat)
 case atStart => exact ⟨rfl, 0, 64, by omega, by omega, rfl, Lib.hid ⟨by omega, rfl⟩, Lib.hid rfl⟩
 case round =>
  obtain ⟨rfl, q, bs, hq, hbs, rfl, HB, HG⟩ := hrel
  go_wp2_with fail
  go_loopw [4] (fun iv wr' => wr' = wr ∧ ∃ b : Nat, b ≤ 4 ∧ iv = .int .i64 (b : Int) ∧ Hid (clsG (44 - (4 * q + b)) (4 * q + b) n = clsOf n) ∧ Hid (0 < b → q < 10)) (fun iv _ => 4 - (intOf iv).toNat)
  case atStart => exact ⟨rfl, 0, by omega, rfl, HG, Lib.hid (fun h => absurd h (by omega))⟩
  case round =>
   obtain ⟨rfl, b, hb, rfl, HC, HQ⟩ := hrel
   by_cases hlt : b < 4
   ·
    obtain ⟨bq, hbq⟩ : ∃ bq, bq = 16 * 2 ^ q := ⟨_, rfl⟩
    obtain ⟨p, hp⟩ : ∃ p, p = bq * b := ⟨_, rfl⟩
    have hbq4 : bq * 4 = bs := by rw [hbq, HB.out.2]; omega
    have hpb : p ≤ 65536 := by
     have : bq * b ≤ bq * 4 := Nat.mul_le_mul_left _ (by omega)
     omega
    have HAT : Hid (clsAt (4 * q + b) = bs + p) := Lib.hid (by rw [clsAt_eq q b hlt, hp, hbq, HB.out.2])
    have h4 : Int.tdiv (bs : Int) 4 = (bq : Int) := by rw [Int.tdiv_eq_ediv_of_nonneg (by omega)]; omega
    have hbqb : bq ≤ 16384 := by omega
    have h5 : wrap64 ((bq : Int) * (b : Int)) = (p : Int) := by
     rw [show (bq : Int) * (b : Int) = (p : Int) by rw [hp]; push_cast; rfl]
     unfold wrap64
     omega
    clear hbq hp hbq4
    by_cases hc : n ≤ bs + p
    ·
     have h6 : decide ((n : Int) ≤ (bs : Int) + (p : Int)) = true := decide_eq_true (by omega)
     have h7 : decide (n ≤ bs + p) = true := decide_eq_true hc
     have HR : Hid (clsOf n = bs + p) := Lib.hid (by rw [← HC.out, clsG_hit (by rw [HAT.out]; exact hc), HAT.out])
     clear hc
     go_wp2_with fail
     go_ret
     exact ⟨by rw [HR.out]; push_cast; rfl, rfl⟩
    ·
     have h6 : decide ((n : Int) ≤ (bs : Int) + (p : Int)) = false := decide_eq_false (by omega)
     have h7 : decide (n ≤ bs + p) = false := decide_eq_false hc
     have HQ1 : Hid (q < 10) := Lib.hid (pow10 (by have := HB.out.2; omega))
     have HR : Hid (clsG (44 - (4 * q + (b + 1))) (4 * q + (b + 1)) n = clsOf n) := Lib.hid (by
      rw [← HC.out, show 44 - (4 * q + b) = (44 - (4 * q + (b + 1))) + 1 by omega, clsG_miss (by rw [HAT.out]; exact hc)]; rfl)
     clear hc
     go_wp2_with fail
     go_roundw
     case rel => exact ⟨trivial, b + 1, by omega, by go_num, HR, Lib.hid (fun _ => HQ1.out)⟩
     case measure => simp [intOf]; omega
   ·
    obtain rfl : b = 4 := by omega
    have HQ1 : Hid (q < 10) := Lib.hid (HQ.out (by omega))
    have hb1 : bs ≤ 32768 := by
     have h1 := HB.out.2
     have h2 : 2 ^ q ≤ 2 ^ 9 := Nat.pow_le_pow_right (by decide) (by have := HQ1.out; omega)
     omega
    have HS : Hid (64 ≤ 2 * bs ∧ 2 * bs = 64 * 2 ^ (q + 1)) := Lib.hid ⟨by have := HB.out.1; omega, by have := HB.out.2; rw [Nat.pow_succ]; omega⟩
    have HR : Hid (clsG (44 - 4 * (q + 1)) (4 * (q + 1)) n = clsOf n) := HC
    go_wp2_with fail
    go_roundw
    case rel => exact ⟨trivial, q + 1, 2 * bs, by have := HQ1.out; omega, by omega, by go_num, HS, HR⟩
    case measure =>
     have := HB.out.1
     simp [intOf]
     omega
end Go.Proofs.Ytboglaokdgnpaaa
/- ref30.Class. -/
namespace Go.Proofs.Ytboglaokdgnpaaa
open Go Go.RowKit Gf Sha

/-- The class of a valid ref. -/
def clsR (r : Rf) : Int := (clsOf (needN r.2.2.toNat) : Int)
theorem needN_le {n : Nat} (h : n ≤ 32768) : needN n ≤ 32800 := by
 have := (uv_length n).2
 unfold needN
 omega
theorem rfB_size {r : Rf} (h : rfB r = true) : ∃ n : Nat, r.2.2 = (n : Int) ∧ n ≤ 32768 := by
 simp only [rfB, Bool.and_eq_true, decide_eq_true_eq] at h
 exact ⟨r.2.2.toNat, by omega, by omega⟩
set_option maxHeartbeats 1000000 in
theorem rcls_any (r : Rf) (w : World) (hr : rfB r = true) :
  Calls Try.prog 100 #[.agg (rfL r).toArray] w fun e w' => e = .returned (.int .i64 (clsR r)) ∧ Below w.heap.size w w' := by
 obtain ⟨n, hn, hle⟩ := rfB_size hr
 have HR : Hid (clsR r = (clsOf (needN n) : Int)) := Lib.hid (by rw [clsR, hn]; rfl)
 have HN : Hid (rfL r = [.string (strB r.1), .int .i64 r.2.1, .int .i64 (n : Int)]) := Lib.hid (by rw [rfL, hn])
 have HC1 := Lib.hid (fun w => rneed_any n w (by omega))
 have HC2 := Lib.hid (fun w => rclass_any (needN n) w (by have := needN_le hle; omega))
 clear hn hr
 go_enter Try.func100, Try.ntmps100
 go_wp2_with (first
  | ((with_reducible show OpW 1); refine wpList_box _ rfl 73 (.tmp 0) rfl (rfL r) rfl ?_; intro w1 a1 a2 a3; have HB1 := Lib.hid a2; rw [HN.out] at a1; have q2 := a1.get (j := 2) rfl; clear a1 a2 a3)
  | (go_at_call 115; refine (HC1.out _).mono ?_; rintro e w2 ⟨rfl, b2⟩; have HB2 := Lib.hid (below_then HB1.out b2); clear b2)
  | (go_at_call 114; refine (HC2.out _).mono ?_; rintro e w3 ⟨rfl, hw⟩; rw [hw]; clear hw w3))
 go_ret
 exact ⟨by rw [HR.out]; rfl, HB2.out⟩
end Go.Proofs.Ytboglaokdgnpaaa
/- ref30.Valid: a valid stripe. -/
namespace Go.Proofs.Ytboglaokdgnpaaa
open Go Go.RowKit Gf Sha

/-- A valid stripe. -/
def spB (s : Sp) : Bool := decide (s.id.length = 32) && (decide (0 ≤ s.v) && (decide (s.v ≤ 11) && (cdB s.d s.t && (decide (1 ≤ s.refs.length) && (decide ((s.refs.length : Int) ≤ s.d) && (okB rfB rfN s.refs && s.refs.all fun r => decide (clsR r = s.b)))))))
theorem okB_at {α β : Type} [BEq β] {p : α → Bool} {f : α → β} {l : List α} (h : okB p f l = true) {k : Nat} {x : α} (hk : l[k]? = some x) : p x = true := by
 have h1 := List.all_eq_true.1 h k (List.mem_range.2 (List.getElem?_eq_some_iff.1 hk).1)
 simp only [okAt, hk, Bool.and_eq_true] at h1
 exact h1.1

set_option maxRecDepth 100000 in
set_option maxHeartbeats 4000000 in
theorem rvalid_any (cs : List Value) (s : Sp) (w : World) (h : rSp w cs s) :
  Calls Try.prog 82 #[.agg cs.toArray] w fun e w' => e = .returned (.bool (spB s)) ∧ Below w.heap.size w w' := by
 obtain ⟨A, n, c, rfl, hl, _⟩ := h
 have hn := hl.len_le
 have H := Lib.hid hl
 have HL := Lib.hid hl.1
 clear hl
 by_cases h1 : s.id.length = 32
 rotate_left
 ·
  have e1 : (((strB s.id).size : Int) != 32) = true := by rw [strB_size, bne_iff_ne]; omega
  have HR : Hid (spB s = false) := Lib.hid (by rw [spB, decide_eq_false h1]; rfl)
  clear h1
  go_enter Try.func82, Try.ntmps82
  go_wp2_with (first
   | ((with_reducible show OpW 1); refine wpList_box _ rfl 61 (.tmp 0) rfl (spC s A n c) rfl ?_; intro w1 a1 a2 a3; have HB1 := Lib.hid a2; have HP1 := Lib.hid a1; have q0 := a1.get (j := 0) rfl; have q1 := a1.get (j := 1) rfl; have q3 := a1.get (j := 3) rfl; have q4 := a1.get (j := 4) rfl; have q5 := a1.get (j := 5) rfl; clear a1 a2 a3)
   | (go_at_call 98; refine (rcode_any _ _ _).mono ?_; rintro e w2 ⟨rfl, hw⟩; rw [hw]; clear hw w2; rw [e4]))
  go_ret
  exact ⟨ret_bool HR.out.symm, HB1.out⟩
 have e1 : (((strB s.id).size : Int) != 32) = false := by rw [strB_size, h1]; rfl
 by_cases h2 : 0 ≤ s.v
 rotate_left
 ·
  have e2 : decide (s.v < 0) = true := decide_eq_true (by omega)
  have HR : Hid (spB s = false) := Lib.hid (by rw [spB, decide_eq_true h1, decide_eq_false h2]; rfl)
  clear h1 h2
  go_enter Try.func82, Try.ntmps82
  go_wp2_with (first
   | ((with_reducible show OpW 1); refine wpList_box _ rfl 61 (.tmp 0) rfl (spC s A n c) rfl ?_; intro w1 a1 a2 a3; have HB1 := Lib.hid a2; have HP1 := Lib.hid a1; have q0 := a1.get (j := 0) rfl; have q1 := a1.get (j := 1) rfl; have q3 := a1.get (j := 3) rfl; have q4 := a1.get (j := 4) rfl; have q5 := a1.get (j := 5) rfl; clear a1 a2 a3)
   | (go_at_call 98; refine (rcode_any _ _ _).mono ?_; rintro e w2 ⟨rfl, hw⟩; rw [hw]; clear hw w2; rw [e4]))
  go_ret
  exact ⟨ret_bool HR.out.symm, HB1.out⟩
 have e2 : decide (s.v < 0) = false := decide_eq_false (by omega)
 by_cases h3 : s.v ≤ 11
 rotate_left
 ·
  have e3 : decide (11 < s.v) = true := decide_eq_true (by omega)
  have HR : Hid (spB s = false) := Lib.hid (by rw [spB, decide_eq_true h1, decide_eq_true h2, decide_eq_false h3]; rfl)
  clear h1 h2 h3
  go_enter Try.func82, Try.ntmps82
  go_wp2_with (first
   | ((with_reducible show OpW 1); refine wpList_box _ rfl 61 (.tmp 0) rfl (spC s A n c) rfl ?_; intro w1 a1 a2 a3; have HB1 := Lib.hid a2; have HP1 := Lib.hid a1; have q0 := a1.get (j := 0) rfl; have q1 := a1.get (j := 1) rfl; have q3 := a1.get (j := 3) rfl; have q4 := a1.get (j := 4) rfl; have q5 := a1.get (j := 5) rfl; clear a1 a2 a3)
   | (go_at_call 98; refine (rcode_any _ _ _).mono ?_; rintro e w2 ⟨rfl, hw⟩; rw [hw]; clear hw w2; rw [e4]))
  go_ret
  exact ⟨ret_bool HR.out.symm, HB1.out⟩
 have e3 : decide (11 < s.v) = false := decide_eq_false (by omega)
 have HS : Hid (spB s = (cdB s.d s.t && (decide (1 ≤ s.refs.length) && (decide ((s.refs.length : Int) ≤ s.d) && (okB rfB rfN s.refs && s.refs.all fun r => decide (clsR r = s.b)))))) := Lib.hid (by rw [spB, decide_eq_true h1, decide_eq_true h2, decide_eq_true h3]; rfl)
 clear h1 h2 h3
 cases e4 : cdB s.d s.t with
 | false =>
  have HR : Hid (spB s = false) := Lib.hid (by rw [HS.out, e4]; rfl)
  go_enter Try.func82, Try.ntmps82
  go_wp2_with (first
   | ((with_reducible show OpW 1); refine wpList_box _ rfl 61 (.tmp 0) rfl (spC s A n c) rfl ?_; intro w1 a1 a2 a3; have HB1 := Lib.hid a2; have HP1 := Lib.hid a1; have q0 := a1.get (j := 0) rfl; have q1 := a1.get (j := 1) rfl; have q3 := a1.get (j := 3) rfl; have q4 := a1.get (j := 4) rfl; have q5 := a1.get (j := 5) rfl; clear a1 a2 a3)
   | (go_at_call 98; refine (rcode_any _ _ _).mono ?_; rintro e w2 ⟨rfl, hw⟩; rw [hw]; clear hw w2; rw [e4]))
  go_ret
  exact ⟨ret_bool HR.out.symm, HB1.out⟩
 | true =>
  by_cases h5 : 1 ≤ n
  rotate_left
  ·
   have e5 : decide (n < 1) = true := decide_eq_true (by omega)
   have e5' : decide ((n : Int) < 1) = true := decide_eq_true (by omega)
   have HR : Hid (spB s = false) := Lib.hid (by rw [HS.out, e4, HL.out, decide_eq_false h5]; rfl)
   clear h5
   go_enter Try.func82, Try.ntmps82
   go_wp2_with (first
    | ((with_reducible show OpW 1); refine wpList_box _ rfl 61 (.tmp 0) rfl (spC s A n c) rfl ?_; intro w1 a1 a2 a3; have HB1 := Lib.hid a2; have HP1 := Lib.hid a1; have q0 := a1.get (j := 0) rfl; have q1 := a1.get (j := 1) rfl; have q3 := a1.get (j := 3) rfl; have q4 := a1.get (j := 4) rfl; have q5 := a1.get (j := 5) rfl; clear a1 a2 a3)
    | (go_at_call 98; refine (rcode_any _ _ _).mono ?_; rintro e w2 ⟨rfl, hw⟩; rw [hw]; clear hw w2; rw [e4]))
   go_ret
   exact ⟨ret_bool HR.out.symm, HB1.out⟩
  have e5 : decide (n < 1) = false := decide_eq_false (by omega)
  have e5' : decide ((n : Int) < 1) = false := decide_eq_false (by omega)
  by_cases h6 : (n : Int) ≤ s.d
  rotate_left
  ·
   have e6 : decide (s.d < (n : Int)) = true := decide_eq_true (by omega)
   have HR : Hid (spB s = false) := Lib.hid (by rw [HS.out, e4, HL.out, decide_eq_true h5, decide_eq_false h6]; rfl)
   clear h5 h6
   go_enter Try.func82, Try.ntmps82
   go_wp2_with (first
    | ((with_reducible show OpW 1); refine wpList_box _ rfl 61 (.tmp 0) rfl (spC s A n c) rfl ?_; intro w1 a1 a2 a3; have HB1 := Lib.hid a2; have HP1 := Lib.hid a1; have q0 := a1.get (j := 0) rfl; have q1 := a1.get (j := 1) rfl; have q3 := a1.get (j := 3) rfl; have q4 := a1.get (j := 4) rfl; have q5 := a1.get (j := 5) rfl; clear a1 a2 a3)
    | (go_at_call 98; refine (rcode_any _ _ _).mono ?_; rintro e w2 ⟨rfl, hw⟩; rw [hw]; clear hw w2; rw [e4]))
   go_ret
   exact ⟨ret_bool HR.out.symm, HB1.out⟩
  have e6 : decide (s.d < (n : Int)) = false := decide_eq_false (by omega)
  have HT : Hid (spB s = (okB rfB rfN s.refs && s.refs.all fun r => decide (clsR r = s.b))) := Lib.hid (by rw [HS.out, e4, HL.out, decide_eq_true h5, decide_eq_true h6]; rfl)
  clear h5 h6
  cases e7 : okB rfB rfN s.refs with
  | false =>
   have HR : Hid (spB s = false) := Lib.hid (by rw [HT.out, e7]; rfl)
   go_enter Try.func82, Try.ntmps82
   go_wp2_with (first
    | ((with_reducible show OpW 1); refine wpList_box _ rfl 61 (.tmp 0) rfl (spC s A n c) rfl ?_; intro w1 a1 a2 a3; have HB1 := Lib.hid a2; have HP1 := Lib.hid a1; have q0 := a1.get (j := 0) rfl; have q1 := a1.get (j := 1) rfl; have q3 := a1.get (j := 3) rfl; have q4 := a1.get (j := 4) rfl; have q5 := a1.get (j := 5) rfl; clear a1 a2 a3)
    | (go_at_call 98; refine (rcode_any _ _ _).mono ?_; rintro e w2 ⟨rfl, hw⟩; rw [hw]; clear hw w2; rw [e4]) | (go_at_call 99; refine (rrefs_any A n c s.refs _ (H.out.kept stay_rf HB1.out)).mono ?_; rintro e w3 ⟨rfl, b3⟩; rw [e7]; have HB3 := Lib.hid (below_then HB1.out b3); clear b3))
   go_ret
   exact ⟨ret_bool HR.out.symm, HB3.out⟩
  | true =>
   go_enter Try.func82, Try.ntmps82
   go_wp2_with (first
    | ((with_reducible show OpW 1); refine wpList_box _ rfl 61 (.tmp 0) rfl (spC s A n c) rfl ?_; intro w1 a1 a2 a3; have HB1 := Lib.hid a2; have HP1 := Lib.hid a1; have q0 := a1.get (j := 0) rfl; have q1 := a1.get (j := 1) rfl; have q3 := a1.get (j := 3) rfl; have q4 := a1.get (j := 4) rfl; have q5 := a1.get (j := 5) rfl; clear a1 a2 a3)
    | (go_at_call 98; refine (rcode_any _ _ _).mono ?_; rintro e w2 ⟨rfl, hw⟩; rw [hw]; clear hw w2; rw [e4]) | (go_at_call 99; refine (rrefs_any A n c s.refs _ (H.out.kept stay_rf HB1.out)).mono ?_; rintro e w3 ⟨rfl, b3⟩; rw [e7]; have HB3 := Lib.hid (below_then HB1.out b3); have HP3 := Lib.hid (HP1.out.kept b3); have p5 := HP3.out.get (j := 5) rfl; clear b3))
   clear p5
   go_loopw [50] (fun iv wr => ∃ k : Nat, k ≤ n ∧ iv = .int .i64 (k : Int) ∧ Hid ((s.refs.take k).all (fun r => decide (clsR r = s.b)) = true) ∧ Hid (Below w3.heap.size w3 wr)) (fun iv _ => n - (intOf iv).toNat)
   case atStart => exact ⟨0, by omega, rfl, Lib.hid rfl, Lib.hid (Below.refl _ _)⟩
   case round =>
    obtain ⟨k, hk, rfl, hall, hb⟩ := hrel
    obtain ⟨wx, hwx⟩ : ∃ x, x = wr := ⟨_, rfl⟩
    rw [← hwx] at hb ⊢
    clear hwx
    have HBx := Lib.hid (below_thenB HB3.out HB3.out.size hb.out)
    by_cases hlt : k < n
    ·
     obtain ⟨r, g, o, cs, hs, rfl, hat, rfl, _⟩ := H.out.at_ stay_rf (Below.refl _ _) hlt
     have HX := Lib.hid hs
     have HA := Lib.hid (hat.kept HBx.out)
     have HRB := Lib.hid (okB_at e7 hs)
     clear hs hat
     by_cases h8 : clsR r = s.b
     ·
      have e8 : (clsR r != s.b) = false := by rw [bne_eq_false_iff_eq]; exact h8
      have HR : Hid ((s.refs.take (k + 1)).all (fun r => decide (clsR r = s.b)) = true) := Lib.hid (all_step HX.out hall.out (decide_eq_true h8))
      clear h8
      go_wp2_with (first
       | ((with_reducible show OpW 53); refine wpList_loadv _ rfl 73 (.tmp 52) rfl 3 (by kernel_rfl) g (o + k * 3) (rfL r) (by go_simp) HA.out rfl ?_)
       | ((with_reducible show OpW 4); refine wpList_alloc _ rfl 73 rfl rfZ rfZero ?_; intro w3 a1 a2 a3; have HV3 := Lib.hid a1; have HX3 := Lib.hid a2; clear a1 a2 a3)
       | ((with_reducible show OpN); refine wpList_storev _ rfl 73 (.tmp 4) (.tmp 53) rfl 3 (by kernel_rfl) wx.heap.size 0 _ rfZ (rfL r) rfl rfl HV3.out rfl (one_rf r) (by decide) ?_; intro w4 a1 a2 a3; have HV4 : Hid (BL w4 wx.heap.size 73 (rfL r)) := Lib.hid a1; have HX4 : Hid (Below wx.heap.size wx w4) := Lib.hid (((Kp.of_below (S := fun _ => False) HX3.out).after a2 (fun i hi e => by omega)).below (Nat.le_refl _) (fun _ h => h.elim)); clear a1 a2 a3)
       | fail)
      have HC4 : Hid (∀ w', Below w4.heap.size w4 w' → w'.cell? ⟨w.heap.size, 2, none⟩ = some (.int .i64 s.b) ∧ Below w4.heap.size w4 w') := Lib.hid (fun w' hb' => ⟨((HP3.out.kept (below_thenB hb.out hb.out.size HX4.out)).kept hb').get (j := 2) rfl, hb'⟩)
      refine Text.wp_region_text (fun w' => w'.cell? ⟨w.heap.size, 2, none⟩ = some (.int .i64 s.b) ∧ Below w4.heap.size w4 w') [(2, 4), (0, 0), (3, 0), (1, 2), (4, 4)] (by kernel_rfl) (by kernel_rfl) (fun _ _ _ _ _ h => h) (HC4.out _ (Below.refl _ _).drew) ?_
      (refine Text.purek rfl rfl (fun K hK => ⟨_, fun w' => by go_simp <;> rfl, ?_⟩); go_simp; refine hK _ ?_; clear hK K)
      refine Text.heldk rfl rfl (fun K hK => ?_)
      refine ⟨_, fun w' hw' => exec_loadv 73 (.tmp 4) rfl 3 (by kernel_rfl) wx.heap.size 0 (rfL r) rfl (BL.all (HV4.out.kept hw'.2)) rfl, ?_⟩
      go_simp
      refine hK _ ?_
      clear hK K
      (refine Text.heldk rfl rfl (fun K hK => ⟨_, fun w' hw' => by go_simp <;> rfl, ?_⟩); go_simp; refine hK _ ?_; clear hK K)
      refine Text.eff rfl rfl (fun K hK => ?_)
      go_simp
      refine (rcls_any r _ HRB.out).mono ?_
      rintro e w5 ⟨rfl, b5⟩
      have HX5 : Hid (Below w4.heap.size w4 w5) := Lib.hid (below_ofDrew b5)
      refine hK _ _ (HC4.out _ HX5.out) ?_
      clear hK K b5
      (refine Text.purek rfl rfl (fun K hK => ⟨_, fun w' => by go_simp <;> rfl, ?_⟩); go_simp; refine hK _ ?_; clear hK K)
      refine Text.done ?_
      go_wp2_with fail
      go_roundw
      case rel => exact ⟨k + 1, by omega, by go_num, HR, Lib.hid (below_thenB hb.out hb.out.size (below_thenB HX4.out HX4.out.size HX5.out))⟩
      case measure => simp [intOf]; omega
     ·
      have e8 : (clsR r != s.b) = true := by rw [bne_iff_ne]; exact h8
      have HR : Hid (spB s = false) := Lib.hid (by rw [HT.out, e7, all_miss HX.out (decide_eq_false h8)]; rfl)
      clear h8
      go_wp2_with (first
       | ((with_reducible show OpW 53); refine wpList_loadv _ rfl 73 (.tmp 52) rfl 3 (by kernel_rfl) g (o + k * 3) (rfL r) (by go_simp) HA.out rfl ?_)
       | ((with_reducible show OpW 4); refine wpList_alloc _ rfl 73 rfl rfZ rfZero ?_; intro w3 a1 a2 a3; have HV3 := Lib.hid a1; have HX3 := Lib.hid a2; clear a1 a2 a3)
       | ((with_reducible show OpN); refine wpList_storev _ rfl 73 (.tmp 4) (.tmp 53) rfl 3 (by kernel_rfl) wx.heap.size 0 _ rfZ (rfL r) rfl rfl HV3.out rfl (one_rf r) (by decide) ?_; intro w4 a1 a2 a3; have HV4 : Hid (BL w4 wx.heap.size 73 (rfL r)) := Lib.hid a1; have HX4 : Hid (Below wx.heap.size wx w4) := Lib.hid (((Kp.of_below (S := fun _ => False) HX3.out).after a2 (fun i hi e => by omega)).below (Nat.le_refl _) (fun _ h => h.elim)); clear a1 a2 a3)
       | fail)
      have HC4 : Hid (∀ w', Below w4.heap.size w4 w' → w'.cell? ⟨w.heap.size, 2, none⟩ = some (.int .i64 s.b) ∧ Below w4.heap.size w4 w') := Lib.hid (fun w' hb' => ⟨((HP3.out.kept (below_thenB hb.out hb.out.size HX4.out)).kept hb').get (j := 2) rfl, hb'⟩)
      refine Text.wp_region_text (fun w' => w'.cell? ⟨w.heap.size, 2, none⟩ = some (.int .i64 s.b) ∧ Below w4.heap.size w4 w') [(2, 4), (0, 0), (3, 0), (1, 2), (4, 4)] (by kernel_rfl) (by kernel_rfl) (fun _ _ _ _ _ h => h) (HC4.out _ (Below.refl _ _).drew) ?_
      (refine Text.purek rfl rfl (fun K hK => ⟨_, fun w' => by go_simp <;> rfl, ?_⟩); go_simp; refine hK _ ?_; clear hK K)
      refine Text.heldk rfl rfl (fun K hK => ?_)
      refine ⟨_, fun w' hw' => exec_loadv 73 (.tmp 4) rfl 3 (by kernel_rfl) wx.heap.size 0 (rfL r) rfl (BL.all (HV4.out.kept hw'.2)) rfl, ?_⟩
      go_simp
      refine hK _ ?_
      clear hK K
      (refine Text.heldk rfl rfl (fun K hK => ⟨_, fun w' hw' => by go_simp <;> rfl, ?_⟩); go_simp; refine hK _ ?_; clear hK K)
      refine Text.eff rfl rfl (fun K hK => ?_)
      go_simp
      refine (rcls_any r _ HRB.out).mono ?_
      rintro e w5 ⟨rfl, b5⟩
      have HX5 : Hid (Below w4.heap.size w4 w5) := Lib.hid (below_ofDrew b5)
      refine hK _ _ (HC4.out _ HX5.out) ?_
      clear hK K b5
      (refine Text.purek rfl rfl (fun K hK => ⟨_, fun w' => by go_simp <;> rfl, ?_⟩); go_simp; refine hK _ ?_; clear hK K)
      refine Text.done ?_
      go_wp2_with fail
      go_ret
      exact ⟨ret_bool HR.out.symm, below_thenB HBx.out HBx.out.size (below_thenB HX4.out HX4.out.size HX5.out)⟩
    ·
     obtain rfl : k = n := by omega
     have HR : Hid (spB s = true) := Lib.hid (by have := hall.out; rw [take_end HL.out] at this; rw [HT.out, e7, this]; rfl)
     go_wp2_with fail
     go_ret
     exact ⟨ret_bool HR.out.symm, HBx.out⟩
end Go.Proofs.Ytboglaokdgnpaaa
