/- ShamirUniform: for every input the law returns true, and its arguments read behind the call as they read before. No condition. The walk. -/
import Derived.Test.YtakedococfklgaaAw2
namespace Go.Proofs.Ytakedococfklgaa
open Go.RowKit Gf

attribute [local go_sem] Gf.bv_toNat

theorem evl_one (s c x : UInt8) : evl (splM [s] [[c]]) x = [mul x c ^^^ s] := by
  have h1 : evl (splM [s] [[c]]) x = muladd [s] (muladd [c] (zeros 1) x) x := rfl
  rw [h1]
  simp [muladd, zeros, mul_zero]
theorem uni_inj (x s a b : UInt8) (hx : x ≠ 0) (h : mul x a ^^^ s = mul x b ^^^ s) : a = b := by
  have h1 : mul x a = mul x b := by
    have := congrArg (· ^^^ s) h
    simpa [xor_assoc] using this
  have h2 := congrArg (mul (inv x)) h1
  rw [← mul_assoc, ← mul_assoc, mul_comm (inv x) x, mul_inv x hx, one_mul, one_mul] at h2
  exact h2
/-- The share's byte for coefficient k. -/
def uniF (x s : UInt8) (k : Nat) : Nat := (mul x (UInt8.ofNat k) ^^^ s).toNat
theorem uni_new (x s : UInt8) (hx : x ≠ 0) (k : Nat) (hk : k < 256) : sN (uniF x s) k (mul x (UInt8.ofNat k) ^^^ s).toNat = false := sN_false fun j hj he => by
  have h1 := uni_inj x s _ _ hx (UInt8.toNat_inj.1 he)
  have h2 := congrArg UInt8.toNat h1
  rw [UInt8.toNat_ofNat_of_lt' (by show j < 256; omega), UInt8.toNat_ofNat_of_lt' hk] at h2
  omega
theorem uni_ok (s c : UInt8) (x : Int) (h1 : 1 ≤ x) (h2 : x ≤ 255) : splE [s] [[c]] [x] = 0 := by
  have hx : xsB [x] = true := xsB_true (by simp) (fun i hi => by
    obtain rfl : i = 0 := by simp at hi; omega
    unfold xOk
    have : vX x = true := vX_iff.2 ⟨h1, h2⟩
    simp [gI, this])
  unfold splE
  rw [hx]
  simp [ltB, gR]
theorem uni_L (s c : UInt8) (x : Int) (h1 : 1 ≤ x) (h2 : x ≤ 255) : splL [s] [[c]] [x] = [(x, [mul (UInt8.ofNat x.toNat) c ^^^ s])] := by
  unfold splL
  rw [uni_ok s c x h1 h2, if_pos rfl, splS, List.map_cons, List.map_nil, evl_one]

set_option maxRecDepth 100000 in
set_option maxHeartbeats 2000000 in
theorem uni_walk (s : UInt8) (x : Int) (w : World) :
    Calls Try.prog 6 #[B s, .int .i64 x] w fun e w' => e = .returned (.bool true) ∧ Below w.heap.size w w' := by
  by_cases h1 : x < 1
  · have q1 : decide (x < 1) = true := by simpa using h1
    go_enter Try.func6, Try.ntmps6
    go_wp2_with fail
    refine (awake_any _).mono ?_
    rintro e w1 ⟨rfl, hb1⟩
    have HB1 := Lib.hid hb1
    clear hb1
    go_wp2_with fail
    go_ret
    exact ⟨rfl, HB1.out⟩
  have q1 : decide (x < 1) = false := by simpa using h1
  by_cases h2 : 255 < x
  · have q2 : decide (255 < x) = true := by simpa using h2
    go_enter Try.func6, Try.ntmps6
    go_wp2_with fail
    refine (awake_any _).mono ?_
    rintro e w1 ⟨rfl, hb1⟩
    have HB1 := Lib.hid hb1
    clear hb1
    go_wp2_with fail
    go_ret
    exact ⟨rfl, HB1.out⟩
  have q2 : decide (255 < x) = false := by simpa using h2
  obtain ⟨X, hX⟩ : ∃ X, X = UInt8.ofNat x.toNat := ⟨_, rfl⟩
  have hX0 : X ≠ 0 := by
    intro e
    have h3 := bv_ofNat x (by omega) (by omega)
    rw [← hX, e] at h3
    have h4 : bv 0 = 0 := rfl
    omega
  have HXX := Lib.hid hX
  have HX0 := Lib.hid hX0
  clear hX hX0
  go_enter Try.func6, Try.ntmps6
  go_wp2_with fail
  refine (awake_any _).mono ?_
  rintro e w1 ⟨rfl, hb1⟩
  have HB1 := Lib.hid hb1
  clear hb1
  go_wp2_with fail
  go_loopw [6] (fun i wr => ∃ k : Nat, k ≤ 256 ∧ i = .int .i64 (k : Int) ∧ Hid (Blk wr w1.heap.size 48 (sA (uniF X s) k)) ∧ Hid (Below w1.heap.size w1 wr)) (fun i _ => 256 - (intOf i).toNat)
  case atStart =>
    refine ⟨0, by omega, rfl, Lib.hid ?_, Lib.hid ((Below.refl _ _).alloc (Nat.le_refl _) _)⟩
    rw [← sA_zero]
    exact Blk.new w1 _ _
  case round =>
    obtain ⟨k, hk, rfl, hs, hb⟩ := hrel
    by_cases hlt : k < 256
    · have hk1 : (k : Int) < 256 := by omega
      have HK := Lib.hid hlt
      clear hlt hk
      go_wp2_with fail
      obtain ⟨C, hC⟩ : ∃ C, C = UInt8.ofNat k := ⟨_, rfl⟩
      have hCk : bv C = (k : Int) := by rw [hC]; exact bv_ofNat (k : Int) (by omega) hk1
      have hCB : Value.int .u8 (k : Int) = B C := by rw [← hCk]
      obtain ⟨W5, hW5⟩ : ∃ W, W = (((wr.alloc (.cells #[B s] 5)).alloc (.cells #[.int .u8 (k : Int)] 5)).alloc (.cells #[.slice (some ⟨wr.heap.size + 1, 0, none⟩) 1 1] 22)).alloc (.cells #[.int .i64 x] 3) := ⟨_, rfl⟩
      have hb5 : Below wr.heap.size wr W5 := by rw [hW5]; exact below_then (below_then (below_then (kb1 wr _) (kb1 _ _)) (kb1 _ _)) (kb1 _ _)
      have k1 : Blk W5 wr.heap.size 5 (row [s]) := by rw [hW5]; exact (((blk_at rfl _ _).alloc _).alloc _).alloc _
      have k2 : Blk W5 (wr.heap.size + 1) 5 (row [C]) := by rw [hW5, hCB]; exact ((blk_at (by simp) _ _).alloc _).alloc _
      have k3 : Blk W5 (wr.heap.size + 1 + 1) 22 #[.slice (some ⟨wr.heap.size + 1, 0, none⟩) 1 1] := by rw [hW5]; exact (blk_at (by simp) _ _).alloc _
      have k4 : Blk W5 (wr.heap.size + 1 + 1 + 1) 3 (([x] : List Int).map (Value.int .i64)).toArray := by rw [hW5]; exact blk_at (by simp) _ _
      rw [← hW5]
      refine (split_any _ _ _ 1 1 1 1 1 1 [s] [[C]] [x] W5 (bs1 k1) (ms1 k3 k2) (is_lit k4 rfl (by omega))).mono ?_
      rintro e w2 ⟨v1, rfl, ho1, hx1⟩
      rw [uni_ok s C x (by omega) (by omega)]
      rw [uni_L s C x (by omega) (by omega), ← HXX.out] at ho1
      obtain ⟨A1, c1, rfl, hs1⟩ := ho1.ss (by show 1 * 32 ≤ lim; decide)
      have hbb := below_then hb5 hx1
      have hs2 := hs.out.kept hbb
      obtain ⟨y, hy⟩ : ∃ y, y = mul X C ^^^ s := ⟨_, rfl⟩
      obtain ⟨g1, o1, A2, n2, c2, rfl, q5, q6, q7⟩ := hs1.at_ (Below.refl _ _) (k := 0) (by show 0 < 1; decide)
      have q8 : BS w2 A2 n2 c2 [y] := by rw [hy]; exact q7
      obtain rfl : n2 = 1 := q8.1.symm
      obtain ⟨g3, o3, rfl, q9⟩ := q8.at_ (Below.refl _ _) (k := 0) (by decide)
      have q10 : w2.cell? ⟨g3, o3 + 0, none⟩ = some (B y) := q9
      have hyk : uniF X s k = y.toNat := by unfold uniF; rw [hy, hC]
      have h1' := hs2.cell y.toNat
      rw [sA_get _ _ _ y.toNat_lt, ← hyk, show sN (uniF X s) k (uniF X s k) = false from uni_new X s HX0.out k HK.out, hyk] at h1'
      have h2' := hs2.frozen y.toNat
      have h3' := bv_lo y
      have h4' := bv_hi y
      have HS : Hid (Blk (w2.setCell ⟨w1.heap.size, y.toNat, none⟩ (.bool true)) w1.heap.size 48 (sA (uniF X s) (k + 1))) := Lib.hid (by
        have := hs2.set_ (uniF X s k) (.bool true)
        rw [sA_set (uniF X s) k, hyk] at this
        exact this)
      have HB2 := Lib.hid (below_then hb.out hbb)
      rw [show ([(x, [mul X C ^^^ s])] : List (Int × List UInt8)).length = 1 from rfl]
      simp only [Nat.add_zero, Nat.zero_mul] at q6 q10
      clear hb5 k1 k2 k3 k4 hW5 ho1 hx1 hs1 hbb hs2 q5 q7 q8 q9 hyk hy hC hCk hCB
      go_wp2_with fail
      go_roundw
      case rel => exact ⟨k + 1, by have := HK.out; omega, by go_num, HS, Lib.hid (HB2.out.setCell (Nat.le_refl _) _)⟩
      case measure => simp [intOf]; have := HK.out; omega
    · obtain rfl : k = 256 := by omega
      go_wp2_with fail
      go_ret
      exact ⟨rfl, below_then HB1.out hb.out⟩
end Go.Proofs.Ytakedococfklgaa
