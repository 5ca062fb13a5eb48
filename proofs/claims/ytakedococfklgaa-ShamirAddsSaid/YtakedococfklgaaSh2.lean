/- Contract of shamir.valueAt. -/
import Derived.Test.YtakedococfklgaaSh1
namespace Go.Proofs.Ytakedococfklgaa
open Go.RowKit Gf

theorem ofInt_i64 (a : Nat) (ha : a < 9223372036854775808) : (BitVec.ofInt 64 (a : Int)).toNat = a := by
  rw [BitVec.ofInt_natCast, BitVec.toNat_ofNat]; exact Nat.mod_eq_of_lt (by omega)
theorem i64_xor_nat (a b : Nat) (ha : a < 9223372036854775808) (hb : b < 9223372036854775808) : bits .xor .i64 (a : Int) (b : Int) = ((a ^^^ b : Nat) : Int) := by
  have hx : a ^^^ b < 2 ^ 63 := Nat.xor_lt_two_pow (by omega) (by omega)
  show IntKind.i64.wrap ((BitVec.ofInt 64 (a : Int) ^^^ BitVec.ofInt 64 (b : Int)).toNat : Int) = _
  rw [BitVec.toNat_xor, ofInt_i64 a ha, ofInt_i64 b hb, IntKind.wrap_i64]
  omega
theorem xor_i64 (a b : UInt8) : bits .xor .i64 (bv a) (bv b) = bv (a ^^^ b) := by
  unfold bv; rw [i64_xor_nat _ _ (by have := a.toNat_lt; omega) (by have := b.toNat_lt; omega), UInt8.toNat_xor]
attribute [local go_sem] Gf.xor_bits Gf.and_bits Gf.or_bits Gf.ne_zero_iff Gf.eq_zero_iff Gf.eq_one_iff Gf.beq_bytes Gf.bne_bytes Gf.bv_toNat xor_i64 Gf.bv_wrap

/-- The X of share k as an element. -/
def gX (l : List (Int × List UInt8)) (k : Nat) : UInt8 := UInt8.ofNat (gS l k).1.toNat
theorem gX_eq {l : List (Int × List UInt8)} {k : Nat} (h0 : 0 ≤ (gS l k).1) (h1 : (gS l k).1 < 256) : (gS l k).1 = bv (gX l k) := (bv_ofNat _ h0 h1).symm
/-- The product of x + X over the shares but number i. -/
def lgA (l : List (Int × List UInt8)) (x : UInt8) (i : Nat) : Nat → UInt8
  | 0 => 1
  | j + 1 => if j = i then lgA l x i j else mul (lgA l x i j) (x ^^^ gX l j)
/-- Lagrange's factor of share i. -/
def lgF (l : List (Int × List UInt8)) (x : UInt8) (i : Nat) : UInt8 := Py.dv (lgA l x i l.length) (lgA l (gX l i) i l.length)
/-- The values so far. -/
def vlK (l : List (Int × List UInt8)) (x : UInt8) (L : Nat) : Nat → List UInt8
  | 0 => zeros L
  | k + 1 => muladd (vlK l x L k) (gS l k).2 (lgF l x k)
def vlA (l : List (Int × List UInt8)) (x : UInt8) : List UInt8 := vlK l x (gS l 0).2.length l.length
/-- All have L bytes. -/
def Eql (l : List (Int × List UInt8)) (L : Nat) : Prop := ∀ k, k < l.length → (gS l k).2.length = L
theorem vlK_length {l : List (Int × List UInt8)} {L : Nat} (h : Eql l L) (x : UInt8) : ∀ k, k ≤ l.length → (vlK l x L k).length = L
  | 0, _ => zeros_length L
  | k + 1, hk => by rw [vlK, muladd_length _ _ _ (by rw [vlK_length h x k (by omega), h k (by omega)]), h k (by omega)]

set_option maxRecDepth 100000 in
set_option maxHeartbeats 1000000 in
theorem valueAt_any (A : Option Addr) (n c L : Nat) (l : List (Int × List UInt8)) (x : UInt8) (w : World) (h : SS w A n c l) (h0 : 0 < n) (hL : Eql l L) (hX : ∀ k, k < n → 0 ≤ (gS l k).1 ∧ (gS l k).1 < 256) :
    Calls Try.prog 54 #[.slice A n c, .int .i64 (bv x)] w (Rets (GvB (vlA l x)) w) := by
  have hn := h.len_le
  have HL := Lib.hid h.1
  have H := Lib.hid h
  have HX : Hid (∀ k, k < n → (gS l k).1 = bv (gX l k)) := Lib.hid (fun k hk => gX_eq (hX k hk).1 (hX k hk).2)
  have HQ := Lib.hid hL
  obtain ⟨g, o, A0, n0, c0, rfl, hc1, hc2, hr0⟩ := h.at_ (Below.refl _ _) h0
  rw [Nat.zero_mul, Nat.add_zero] at hc2
  obtain rfl : n0 = L := by rw [← hr0.1]; exact hL 0 (by rw [HL.out]; exact h0)
  have hmk := make_bytes n0 hr0.len_le
  have hn0 := hr0.len_le
  have HV : Hid (vlA l x = vlK l x n0 n) := Lib.hid (by rw [vlA, hL 0 (by rw [HL.out]; exact h0), HL.out])
  clear h hL hX hc1 hr0
  go_enter Try.func54, Try.ntmps54
  go_wp2_with fail
  clear hmk hc2
  go_loopw [5, 22] (fun v i wr => ∃ (k : Nat) (A1 : Option Addr) (c1 : Nat), k ≤ n ∧ i = .int .i64 (k : Int) ∧ v = .slice A1 n0 c1 ∧ Hid (BS wr A1 n0 c1 (vlK l x n0 k)) ∧ Hid (AtB A1 (w.heap.size ≤ ·)) ∧ Hid (Below w.heap.size w wr)) (fun _ i _ => n - (intOf i).toNat)
  case atStart => exact ⟨0, _, n0, by omega, rfl, rfl, Lib.hid (BS.of_blk (l := zeros n0) (Blk.new w _ _) (zeros_length _) (by unfold lim; omega)), Lib.hid (fun a e => by cases e; exact Nat.le_refl _), Lib.hid ((Below.refl _ _).alloc (Nat.le_refl _) _)⟩
  case round =>
    obtain ⟨k, A1, c1, hk, rfl, rfl, hv, hf, hb⟩ := hrel
    by_cases hlt : k < n
    · obtain ⟨w1, rfl⟩ : ∃ w1, w1 = wr := ⟨_, rfl⟩
      obtain ⟨g', o', A2, n2, c2, e2, hc1, hc2, hr2⟩ := H.out.at_ hb.out hlt
      cases Option.some.inj e2
      rw [HX.out k hlt] at hc1
      obtain rfl : n2 = n0 := by rw [← hr2.1]; exact HQ.out k (by rw [HL.out]; exact hlt)
      have hbA : Below w1.heap.size w1 (w1.alloc (.cells #[.int .i64 (bv (gX l k)), .slice A2 n2 c2] 33)) := (Below.refl _ _).alloc (Nat.le_refl _) _
      have HBK := Lib.hid (Blk.new w1 33 #[.int .i64 (bv (gX l k)), .slice A2 n2 c2])
      have HVA := Lib.hid (hv.out.kept hbA)
      have HRA := Lib.hid (hr2.kept hbA)
      have HBA := Lib.hid (below_then hb.out hbA)
      clear hbA hr2 e2
      go_wp2_with fail
      clear hc1 hc2
      obtain ⟨w2, hw2⟩ : ∃ w2, w2 = w1.alloc (.cells #[.int .i64 (bv (gX l k)), .slice A2 n2 c2] 33) := ⟨_, rfl⟩
      rw [← hw2] at HBK HVA HRA HBA ⊢
      clear hw2
      go_loopw [8, 9, 29] (fun a b i wr => ∃ (j : Nat) (p q : UInt8), j ≤ n ∧ i = .int .i64 (j : Int) ∧ a = B p ∧ b = B q ∧ Hid (p = lgA l x k j) ∧ Hid (q = lgA l (gX l k) k j) ∧ Hid (Below w2.heap.size w2 wr)) (fun _ _ i _ => n - (intOf i).toNat)
      case atStart => exact ⟨0, 1, 1, by omega, rfl, rfl, rfl, Lib.hid rfl, Lib.hid rfl, Lib.hid (Below.refl _ _)⟩
      case round =>
        obtain ⟨j, p, q, hj, rfl, rfl, rfl, hp, hq, hb2⟩ := hrel
        by_cases hjn : j < n
        · obtain ⟨g', o', A3, n3, c3, e3, hd1, hd2, hr3⟩ := H.out.at_ (below_then HBA.out hb2.out) hjn
          cases Option.some.inj e3
          rw [HX.out j hjn] at hd1
          have hs := (HBK.out.kept hb2.out).cell 0
          have hbB : Below wr.heap.size wr (wr.alloc (.cells #[.int .i64 (bv (gX l j)), .slice A3 n3 c3] 33)) := (Below.refl _ _).alloc (Nat.le_refl _) _
          have hs' : (wr.alloc (.cells #[.int .i64 (bv (gX l j)), .slice A3 n3 c3] 33)).cell? ⟨w1.heap.size, 0, none⟩ = some (.int .i64 (bv (gX l k))) := by
            rw [(HBK.out.kept (below_then hb2.out hbB)).cell]; rfl
          have HB3 := Lib.hid (below_then hb2.out hbB)
          clear hbB hr3 e3 hs
          by_cases hjk : j = k
          · have q1 : (j != k) = false := by simpa using hjk
            have q2 : ((j : Int) != (k : Int)) = false := by simp; omega
            have HP : Hid (p = lgA l x k (j + 1)) := Lib.hid (by rw [lgA, if_pos hjk]; exact hp.out)
            have HQ' : Hid (q = lgA l (gX l k) k (j + 1)) := Lib.hid (by rw [lgA, if_pos hjk]; exact hq.out)
            have HJ := Lib.hid hjk
            clear hjk hp hq
            go_wp2_with fail
            go_roundw
            case rel => exact ⟨j + 1, p, q, by omega, by go_num, rfl, rfl, HP, HQ', HB3⟩
            case measure => simp [intOf]; omega
          · have q1 : (j != k) = true := by simpa using hjk
            have q2 : ((j : Int) != (k : Int)) = true := by simp; omega
            have HP : Hid (mul p (x ^^^ gX l j) = lgA l x k (j + 1)) := Lib.hid (by rw [lgA, if_neg hjk, hp.out])
            have HQ' : Hid (mul q (gX l k ^^^ gX l j) = lgA l (gX l k) k (j + 1)) := Lib.hid (by rw [lgA, if_neg hjk, hq.out])
            have HJ := Lib.hid hjk
            clear hjk hp hq
            go_wp2_with (go_at_call 76; refine (mul_any _ _ _).mono ?_; rintro e w' ⟨rfl, rfl⟩)
            go_roundw
            case rel => exact ⟨j + 1, _, _, by omega, by go_num, rfl, rfl, HP, HQ', HB3⟩
            case measure => simp [intOf]; omega
        · obtain rfl : j = n := by omega
          have HF : Hid (Py.dv p q = lgF l x k) := Lib.hid (by rw [lgF, HL.out, hp.out, hq.out])
          have hs := (HBK.out.kept hb2.out).cell 1
          have hs' : wr.cell? ⟨w1.heap.size, 1, none⟩ = some (.slice A2 n2 c2) := by rw [hs]; rfl
          clear hs
          go_wp2_with (go_at_call 72; refine (div_any _ _ _).mono ?_; rintro e w' ⟨rfl, rfl⟩)
          refine (muladd_any A1 A2 n2 c1 c2 _ _ (Py.dv p q) _ (HVA.out.kept hb2.out) (HRA.out.kept hb2.out)).mono ?_
          rintro e w4 ⟨v4, rfl, hv4⟩
          rw [HF.out] at hv4
          obtain ⟨g4, n4, rfl, h41, h42, h43, h44⟩ := hv4
          obtain rfl : n4 = n2 := by rw [← h41, muladd_length _ _ _ (by rw [hv.out.1, HRA.out.1]), HRA.out.1]
          have HB4 := Lib.hid (below_then (below_then HBA.out hb2.out) h44)
          have HV4 : Hid (BS w4 (some ⟨g4, 0, none⟩) n4 n4 (vlK l x n4 (k + 1))) := Lib.hid (BS.of_blk h43 h41 (by unfold lim; omega))
          have HF4 : Hid (AtB (some ⟨g4, 0, none⟩) (w.heap.size ≤ ·)) := Lib.hid (fun a e => by cases e; exact Nat.le_trans (below_then HBA.out hb2.out).size h42)
          clear h41 h42 h43 h44 hs'
          go_wp2_with fail
          go_roundw
          case rel => exact ⟨k + 1, _, n4, by omega, by go_num, rfl, HV4, HF4, HB4⟩
          case measure => simp [intOf]; omega
    · obtain rfl : k = n := by omega
      have HR : Hid (GvB (vlA l x) w (.slice A1 n0 c1) wr) := Lib.hid (by rw [HV.out]; exact ⟨_, _, _, rfl, hv.out, hf.out, hb.out⟩)
      go_wp2_with fail
      go_ret
      exact ⟨_, rfl, HR.out⟩
end Go.Proofs.Ytakedococfklgaa
