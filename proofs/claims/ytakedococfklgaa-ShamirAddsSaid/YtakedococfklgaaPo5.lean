/- Contract of polynomial.Interpolate. -/
import Derived.Test.YtakedococfklgaaPo3
namespace Go.Proofs.Ytakedococfklgaa
open Go.RowKit Gf

attribute [local go_sem] Gf.xor_bits Gf.and_bits Gf.or_bits Gf.ne_zero_iff Gf.eq_zero_iff Gf.eq_one_iff Gf.beq_bytes Gf.bne_bytes Gf.bv_toNat

/-- Is i among f 0, .., f (k - 1)? -/
def sN (f : Nat → Nat) (k i : Nat) : Bool := (List.range k).any fun j => f j == i
theorem sN_succ (f : Nat → Nat) (k i : Nat) : sN f (k + 1) i = (sN f k i || (f k == i)) := by
  unfold sN; rw [List.range_succ, List.any_append]; simp
theorem sN_false {f : Nat → Nat} {k i : Nat} (h : ∀ j, j < k → f j ≠ i) : sN f k i = false := by
  unfold sN; rw [List.any_eq_false]; intro j hj; simpa using h j (List.mem_range.1 hj)
theorem sN_true {f : Nat → Nat} {k i : Nat} (h : sN f k i = true) : ∃ j, j < k ∧ f j = i := by
  unfold sN at h; rw [List.any_eq_true] at h
  obtain ⟨j, h1, h2⟩ := h
  exact ⟨j, List.mem_range.1 h1, by simpa using h2⟩
def sA (f : Nat → Nat) (k : Nat) : Array Value := ((List.range 256).map fun i => Value.bool (sN f k i)).toArray
theorem sA_zero (f : Nat → Nat) : Try.zeroCells48 = sA f 0 := by
  show _ = ((List.range 256).map fun _ => Value.bool false).toArray
  kernel_rfl
theorem sA_get (f : Nat → Nat) (k i : Nat) (h : i < 256) : (sA f k)[i]? = some (.bool (sN f k i)) := by
  simp [sA, h]
theorem sA_set (f : Nat → Nat) (k : Nat) : (sA f k).setIfInBounds (f k) (.bool true) = sA f (k + 1) := by
  unfold sA
  rw [List.setIfInBounds_toArray]
  congr 1
  apply List.ext_getElem (by simp)
  intro j h1 h2
  simp only [List.getElem_set, List.getElem_map, List.getElem_range]
  by_cases e : f k = j
  · rw [if_pos e, sN_succ, e]
    simp
  · rw [if_neg e, sN_succ]
    have : (f k == j) = false := by simpa using e
    rw [this, Bool.or_false]

theorem far_kept {w w' : World} {A : Option Addr} {n c : Nat} {l : List UInt8} {S : Nat → Prop} (h : BS w A n c l) (hk : Kp S w w') (hf : AtB A (fun b => ¬ S b)) : BS w' A n c l :=
  ⟨h.1, h.2.1, h.2.2.1, fun k hkn => by
    obtain ⟨g, o, e, hc⟩ := h.2.2.2 k hkn
    exact ⟨g, o, e, hk.cell hc (hf ⟨g, o, none⟩ e)⟩⟩

set_option maxRecDepth 100000 in
set_option maxHeartbeats 1000000 in
theorem interp_any (A A' : Option Addr) (n c c' : Nat) (xs ys : List UInt8) (w : World) (hp : BS w A n c xs) (hq : BS w A' n c' ys) (hn : n ≤ 1000) (hnd : Py.Dst xs) :
    Calls Try.prog 52 #[.slice A n c, .slice A' n c'] w (GvB0 (Py.itP xs ys) w) := by
  have HLX := Lib.hid hp.1
  have HLY := Lib.hid hq.1
  have HX := Lib.hid hp
  have HY := Lib.hid hq
  have HND := Lib.hid hnd
  have HNS : Hid (∀ k, k < n → sN (fun j => (gB xs j).toNat) k (gB xs k).toNat = false) := Lib.hid (fun k hk => sN_false fun j hj he => by
    exact hnd j k hj (by rw [HLX.out]; exact hk) (UInt8.toNat_inj.1 he))
  have HNN := Lib.hid hn
  have hn2 : n ≤ 140737488355328 := by omega
  have hmk := make_bytes n hn2
  clear hp hq hnd hn
  go_enter Try.func52, Try.ntmps52
  go_wp2_with fail
  go_loopw [22] (fun i wr => ∃ k : Nat, k ≤ n ∧ i = .int .i64 (k : Int) ∧ Hid (Blk wr w.heap.size 48 (sA (fun j => (gB xs j).toNat) k)) ∧ Hid (Below w.heap.size w wr)) (fun i _ => n - (intOf i).toNat)
  case atStart =>
    refine ⟨0, by omega, rfl, Lib.hid ?_, Lib.hid ((Below.refl _ _).alloc (Nat.le_refl _) _)⟩
    rw [← sA_zero]
    exact Blk.new w _ _
  case round =>
    obtain ⟨k, hk, rfl, hs, hb⟩ := hrel
    by_cases hlt : k < n
    · obtain ⟨g, o, rfl, hc⟩ := HX.out.at_ hb.out hlt
      obtain ⟨x, hx⟩ : ∃ x, x = gB xs k := ⟨_, rfl⟩
      have h1 := hs.out.cell (gB xs k).toNat
      rw [sA_get _ _ _ (gB xs k).toNat_lt, HNS.out k hlt, ← hx] at h1
      rw [← hx] at hc
      have h2 := hs.out.frozen x.toNat
      have h3 := bv_lo x
      have h4 := bv_hi x
      have HS : Hid (Blk (wr.setCell ⟨w.heap.size, x.toNat, none⟩ (.bool true)) w.heap.size 48 (sA (fun j => (gB xs j).toNat) (k + 1))) := Lib.hid (by
        have := hs.out.set_ (gB xs k).toNat (.bool true)
        rw [sA_set (fun j => (gB xs j).toNat) k, ← hx] at this
        exact this)
      have HXX := Lib.hid hx
      clear hx hmk
      go_wp2_with fail
      go_roundw
      case rel => exact ⟨k + 1, by omega, by go_num, HS, Lib.hid (hb.out.setCell (Nat.le_refl _) _)⟩
      case measure => simp [intOf]; omega
    · obtain ⟨w1, rfl⟩ : ∃ w1, w1 = wr := ⟨_, rfl⟩
      go_wp2_with fail
      clear hmk
      have HSZ := Lib.hid hb.out.size
      go_loopw [10, 38] (fun v i wr => ∃ (k A1 n1 c1 : _), k ≤ n ∧ n1 = k + 1 ∧ i = .int .i64 (k : Int) ∧ v = .slice A1 n1 c1 ∧ Hid (BS wr A1 n1 c1 (Py.itK xs ys k).2) ∧ Hid (AtB A1 (fun b => b ≠ w1.heap.size)) ∧ Hid (OB wr w1.heap.size 5 n (Py.itK xs ys k).1) ∧ Hid (Below w.heap.size w wr)) (fun _ i _ => n - (intOf i).toNat)
      case atStart =>
        refine ⟨0, _, 1, 1, by omega, rfl, rfl, rfl, Lib.hid ?_, Lib.hid (fun a e => by cases e; simp), Lib.hid ?_, Lib.hid ((hb.out.alloc HSZ.out _).alloc (by have := HSZ.out; simp; omega) _)⟩
        · have hblk : Blk ((w1.alloc (.cells (row (zeros n)) 5)).alloc (.cells (row [1]) 5)) (w1.heap.size + 1) 5 (row [1]) := by
            have := Blk.new (w1.alloc (.cells (row (zeros n)) 5)) 5 (row [1])
            rw [World.size_alloc] at this
            exact this
          exact BS.of_blk hblk rfl (by decide)
        · have := OB.of_blk (l := zeros n) ((Blk.new w1 5 (row (zeros n))).alloc (.cells (row [1]) 5))
          rw [zeros_length] at this
          rw [Py.itK, HLX.out]
          exact this
      case round =>
        obtain ⟨k, A1, n1, c1, hk', rfl, rfl, rfl, hB, hF, hO, hb'⟩ := hrel
        by_cases hlt' : k < n
        · obtain ⟨g, o, rfl, hc⟩ := HX.out.at_ hb'.out hlt'
          obtain ⟨gy, oy, rfl, hcy⟩ := HY.out.at_ hb'.out hlt'
          have HBR : Hid (BS wr (some ⟨w1.heap.size, 0, none⟩) n n (Py.itK xs ys k).1) := Lib.hid (by
            have h1 := Py.itK_length1 xs ys k
            rw [HLX.out] at h1
            have := hO.out.bs0 (c := n) (by rw [h1]; exact Nat.le_refl _) (by rw [h1]; unfold lim; omega)
            rw [h1] at this
            exact this)
          go_wp2_with fail
          go_quiet ((first
            | (go_at_call 69; exact Calls.quiet_of (eval_any _ _ _ _ _ _ (HBR.out.drewN _)))
            | (go_at_call 69; exact Calls.quiet_of (eval_any _ _ _ _ _ _ (hB.out.drewN _)))
            | (go_at_call 72; exact quiet_left (div_any _ _ _))))
          go_wp2_with fail
          refine (addTo_any w1.heap.size 0 n n n _ _ A1 (k + 1) c1 (Py.itK xs ys k).2 (Py.dv (gB ys k ^^^ Py.ev (Py.itK xs ys k).1 (gB xs k)) (Py.ev (Py.itK xs ys k).2 (gB xs k))) _ (hO.out.drewN _) (hB.out.drewN _) (by rw [Py.itK_length1, HLX.out]; omega) (by omega) (by rw [Py.itK_length1, HLX.out]; unfold lim; omega)).mono ?_
          rintro e w3 ⟨rfl, h31, h32⟩
          have HO3 : Hid (OB w3 w1.heap.size 5 n (Py.itK xs ys (k + 1)).1) := Lib.hid h31
          have HB3 : Hid (BS w3 A1 (k + 1) c1 (Py.itK xs ys k).2) := Lib.hid (far_kept (hB.out.drewN _) h32 (fun a e => hF.out a e))
          have HW3 : Hid (Below w.heap.size w w3) := Lib.hid ((below_drewN hb'.out _).trans (h32.below hb'.out.size (fun k e => by rw [e]; exact HSZ.out)))
          clear h31 h32 hB hO hb' HBR
          go_wp2_with fail
          refine (timesRoot_any A1 (k + 1) c1 _ _ w3 HB3.out (by have := HNN.out; omega)).mono ?_
          rintro e w4 ⟨v4, rfl, A4, n4, c4, rfl, h41, h42, h43⟩
          obtain rfl : n4 = k + 1 + 1 := by rw [← h41.1, Py.tr_length, Py.itK_length2]
          have HB4 : Hid (BS w4 A4 (k + 1 + 1) c4 (Py.itK xs ys (k + 1)).2) := Lib.hid h41
          have HF4 : Hid (AtB A4 (fun b => b ≠ w1.heap.size)) := Lib.hid (fun a e => by have h1 := h42 a e; have h2 := HO3.out.lt; intro h3; omega)
          have HO4 := Lib.hid (HO3.out.kept h43)
          have HW4 := Lib.hid (below_then HW3.out h43)
          clear h41 h42 h43 HB3 HO3 HW3
          go_wp2_with fail
          go_roundw
          case rel => exact ⟨k + 1, A4, k + 1 + 1, c4, by omega, rfl, by go_num, rfl, HB4, HF4, HO4, HW4⟩
          case measure => simp [intOf]; omega
        · obtain rfl : k = n := by omega
          have HBR : Hid (BS wr (some ⟨w1.heap.size, 0, none⟩) k k (Py.itK xs ys k).1) := Lib.hid (by
            have h1 := Py.itK_length1 xs ys k
            rw [HLX.out] at h1
            have := hO.out.bs0 (c := k) (by rw [h1]; exact Nat.le_refl _) (by rw [h1]; unfold lim; omega)
            rw [h1] at this
            exact this)
          have HE : Hid (Py.trim (Py.itK xs ys k).1 = Py.itP xs ys) := Lib.hid (by rw [Py.itP, HLX.out])
          go_wp2_with fail
          refine (trim_any _ _ _ _ _ HBR.out).mono ?_
          rintro e w3 ⟨v3, rfl, hv3⟩
          rw [HE.out] at hv3
          obtain ⟨A3, n3, c3, rfl, h31, h32, h33⟩ := hv3.gv (by
            have h1 := Py.tl_le (Py.itK xs ys k).1
            have h2 := Py.trim_length (Py.itK xs ys k).1
            have h3 := Py.itK_length1 xs ys k
            rw [HLX.out] at h3
            rw [HE.out] at h2
            unfold lim
            omega)
          have HR : Hid (GvB (Py.itP xs ys) w (.slice A3 n3 c3) w3) := Lib.hid ⟨_, _, _, rfl, h31, (fun a e => Nat.le_trans hb'.out.size (h32 a e)), below_then hb'.out h33⟩
          clear h31 h32 h33 hv3
          go_wp2_with fail
          go_ret2
          exact ⟨_, _, rfl, HR.out⟩
end Go.Proofs.Ytakedococfklgaa
