/- Contracts of merkle.Verify, merkle.See and of the reference's Verify, See. -/
import Derived.Test.YtgjgofjabdjclaaDoorMer2m
import Derived.Test.YtgjgofjabdjclaaDoorA5
namespace Go.Proofs.YtgjgofjabdjclaaDoor
open Go Go.RowKit Gf Sha

/-- A path proves that a leaf is the i-th of n. -/
def verB (leaf : List UInt8) (i n : Nat) (path : List (List UInt8)) (root : List UInt8) : Bool :=
  decide (root.length = 32) && (sumsB path && ((upR leaf i n path.reverse).2 && decide ((upR leaf i n path.reverse).1 = root)))
theorem sums_mem {m : List (List UInt8)} (h : sumsB m = true) : ∀ x ∈ m.reverse, x.length = 32 := by
  intro x hx
  rw [sumsB, List.all_eq_true] at h
  simpa using h x (List.mem_reverse.1 hx)
theorem TS.rev {w : World} {A : Option Addr} {n c : Nat} {m : List (List UInt8)} (h : TS w A n c m) : TS w A m.reverse.length c m.reverse.reverse := by
  rw [List.length_reverse, List.reverse_reverse, h.1]; exact h
theorem strs2 (a b : List UInt8) (w : World) (g : Nat) (h : g = w.heap.size) : TS (w.alloc (.cells #[.string (strB a), .string (strB b)] 9)) (some ⟨g, 0, none⟩) 2 2 [a, b] := by
  subst h
  exact TS.of_blk (m := [a, b]) (BL.new w 9 _) rfl (by decide)

set_option maxRecDepth 100000 in
set_option maxHeartbeats 2000000 in
theorem verify_any (leaf root : List UInt8) (m : List (List UInt8)) (i n k c : Nat) (A : Option Addr) (w : World) (h : TS w A k c m) (hT : Tabs w) (hl : leaf.length = 32) (hi : i < n) (hn : n ≤ 256) :
    Calls Tryd.prog 84 #[.string (strB leaf), .int .i64 (i : Int), .int .i64 (n : Int), .slice A k c, .string (strB root)] w fun e w' => e = .returned (.bool (verB leaf i n m root)) ∧ Below w.heap.size w w' := by
  have hk : k * 16 ≤ 140737488355328 := by have := h.2.2.1; unfold lim at this; omega
  have H := Lib.hid h
  have HT := Lib.hid hT
  have dl := decide_eq_true hl
  have HLL := Lib.hid hl
  clear h hT hl
  by_cases hr : root.length = 32
  · have dr := decide_eq_true hr
    have HRR := Lib.hid hr
    clear hr
    cases hs : sumsB m with
    | false =>
      have HV : Hid (verB leaf i n m root = false) := Lib.hid (by rw [verB, hs]; simp)
      go_enter Tryd.func84, Tryd.ntmps84
      go_wp2_with (first
        | ((with_reducible show wpList _ _ _ (⟨some 22, _, _, _, _, _⟩ :: _) _ _); go_at_call 88; refine (isSum_any leaf _).mono ?_; rintro e w1 ⟨rfl, rfl⟩; rw [dl])
        | ((with_reducible show wpList _ _ _ (⟨some 27, _, _, _, _, _⟩ :: _) _ _); go_at_call 88; refine (isSum_any root _).mono ?_; rintro e w1 ⟨rfl, rfl⟩; rw [dr])
        | (go_at_call 88; first | (refine (isSum_any leaf _).mono ?_; rintro e w1 ⟨rfl, rfl⟩; rw [dl]) | (refine (isSum_any root _).mono ?_; rintro e w1 ⟨rfl, rfl⟩; rw [dr]))
        | (go_at_call 115; refine (areSums_any A k c m _ H.out).mono ?_; rintro e w1 ⟨rfl, rfl⟩; rw [hs]))
      go_ret
      exact ⟨ret_bool HV.out.symm, Below.refl _ _⟩
    | true =>
      have HSM := Lib.hid (sums_mem hs)
      obtain ⟨⟨u, ok⟩, hU⟩ : ∃ U, U = upR leaf i n m.reverse := ⟨_, rfl⟩
      have HUU := Lib.hid hU.symm
      have HV : Hid (verB leaf i n m root = (ok && decide (u = root))) := Lib.hid (by rw [verB, hs, HRR.out, ← hU]; simp)
      have HRK : Hid (m.reverse.length = k) := Lib.hid (by rw [List.length_reverse, H.out.1])
      have HCL : Hid (∀ w', Below w.heap.size w w' → Calls Tryd.prog 116 #[.string (strB leaf), .int .i64 (i : Int), .int .i64 (n : Int), .slice A k c] w' fun e w'' => e = .returned (.tuple #[.string (strB u), .bool ok]) ∧ Below w'.heap.size w' w'') := Lib.hid (fun w' hb => by
        have := climb_any leaf (by rw [HLL.out]; exact Nat.le_refl _) m.reverse i n A c w' (H.out.rev.kept hb) (HT.out.kept hb) HSM.out hi hn
        rw [HRK.out, HUU.out] at this
        exact this)
      clear hU
      have es := strB_eq u root
      cases ok with
      | false =>
        go_enter Tryd.func84, Tryd.ntmps84
        go_wp2_with (first
          | (go_at_call 88; first | (refine (isSum_any leaf _).mono ?_; rintro e w1 ⟨rfl, rfl⟩; rw [dl]) | (refine (isSum_any root _).mono ?_; rintro e w1 ⟨rfl, rfl⟩; rw [dr]))
          | (go_at_call 115; refine (areSums_any A k c m _ H.out).mono ?_; rintro e w1 ⟨rfl, rfl⟩; rw [hs])
          | (go_at_call 116; refine (HCL.out _ (Below.refl _ _)).mono ?_; rintro e w2 ⟨rfl, b2⟩; have HB2 := Lib.hid b2; clear b2))
        go_ret
        exact ⟨ret_bool (by rw [HV.out]; rfl), HB2.out⟩
      | true =>
        go_enter Tryd.func84, Tryd.ntmps84
        go_wp2_with (first
          | (go_at_call 88; first | (refine (isSum_any leaf _).mono ?_; rintro e w1 ⟨rfl, rfl⟩; rw [dl]) | (refine (isSum_any root _).mono ?_; rintro e w1 ⟨rfl, rfl⟩; rw [dr]))
          | (go_at_call 115; refine (areSums_any A k c m _ H.out).mono ?_; rintro e w1 ⟨rfl, rfl⟩; rw [hs])
          | (go_at_call 116; refine (HCL.out _ (Below.refl _ _)).mono ?_; rintro e w2 ⟨rfl, b2⟩; have HB2 := Lib.hid b2; clear b2))
        go_ret
        exact ⟨ret_bool (by rw [HV.out]; rfl), HB2.out⟩
  · have dr := decide_eq_false hr
    have HV : Hid (verB leaf i n m root = false) := Lib.hid (by rw [verB, dr]; rfl)
    clear hr
    go_enter Tryd.func84, Tryd.ntmps84
    go_wp2_with (first
      | (go_at_call 88; first | (refine (isSum_any leaf _).mono ?_; rintro e w1 ⟨rfl, rfl⟩; rw [dl]) | (refine (isSum_any root _).mono ?_; rintro e w1 ⟨rfl, rfl⟩; rw [dr])))
    go_ret
    exact ⟨ret_bool HV.out.symm, Below.refl _ _⟩

theorem sums2 (a b : List UInt8) (h : a.length = 32) : sumsB [a, b] = decide (b.length = 32) := by simp [sumsB, h]
set_option maxRecDepth 100000 in
set_option maxHeartbeats 2000000 in
theorem rverify_any (leaf root : List UInt8) (m : List (List UInt8)) (i n k c : Nat) (A : Option Addr) (w : World) (h : TS w A k c m) (hT : Tabs w) (hl : leaf.length = 32) (hi : i < n) (hn : n ≤ 256) :
    Calls Tryd.prog 86 #[.string (strB leaf), .int .i64 (i : Int), .int .i64 (n : Int), .slice A k c, .string (strB root)] w fun e w' => e = .returned (.bool (verB leaf i n m root)) ∧ Below w.heap.size w w' := by
  have hk : k * 16 ≤ 140737488355328 := by have := h.2.2.1; unfold lim at this; omega
  have H := Lib.hid h
  have HT := Lib.hid hT
  have HLL := Lib.hid hl
  have H2 : Hid (sumsB [leaf, root] = decide (root.length = 32)) := Lib.hid (sums2 _ _ hl)
  have HB1 : Hid (Below w.heap.size w (w.alloc (.cells #[.string (strB leaf), .string (strB root)] 9))) := Lib.hid ((Below.refl _ _).alloc (Nat.le_refl _) _)
  clear h hT hl
  by_cases hr : root.length = 32
  · have dr := decide_eq_true hr
    have HRR := Lib.hid hr
    clear hr
    cases hs : sumsB m with
    | false =>
      have HV : Hid (verB leaf i n m root = false) := Lib.hid (by rw [verB, hs]; simp)
      go_enter Tryd.func86, Tryd.ntmps86
      go_wp2_with (go_at_call 27; first | ((with_reducible show Calls _ _ #[.slice (some _) 2 2] (World.alloc w _) _); refine (rsums_any _ 2 2 [leaf, root] _ (strs2 leaf root w _ rfl)).mono ?_; rintro e w1 ⟨rfl, rfl⟩; rw [H2.out, dr]) | ((with_reducible show Calls _ _ #[.slice A k c] _ _); refine (rsums_any A k c m _ (H.out.kept HB1.out)).mono ?_; rintro e w1 ⟨rfl, rfl⟩; rw [hs]))
      go_ret
      exact ⟨ret_bool HV.out.symm, HB1.out⟩
    | true =>
      have HSM := Lib.hid (sums_mem hs)
      obtain ⟨⟨u, ok⟩, hU⟩ : ∃ U, U = upR leaf i n m.reverse := ⟨_, rfl⟩
      have HUU := Lib.hid hU.symm
      have HV : Hid (verB leaf i n m root = (ok && decide (u = root))) := Lib.hid (by rw [verB, hs, HRR.out, ← hU]; simp)
      have HRK : Hid (m.reverse.length = k) := Lib.hid (by rw [List.length_reverse, H.out.1])
      have HCL : Hid (∀ w', Below w.heap.size w w' → Calls Tryd.prog 117 #[.string (strB leaf), .int .i64 (i : Int), .int .i64 (n : Int), .slice A k c] w' fun e w'' => e = .returned (.tuple #[.string (strB u), .bool ok]) ∧ Below w'.heap.size w' w'') := Lib.hid (fun w' hb => by
        have := up_any leaf (by rw [HLL.out]; exact Nat.le_refl _) m.reverse i n A c w' (H.out.rev.kept hb) (HT.out.kept hb) HSM.out hi hn
        rw [HRK.out, HUU.out] at this
        exact this)
      clear hU
      have es := strB_eq u root
      cases ok with
      | false =>
        go_enter Tryd.func86, Tryd.ntmps86
        go_wp2_with (first
          | (go_at_call 27; first | ((with_reducible show Calls _ _ #[.slice (some _) 2 2] (World.alloc w _) _); refine (rsums_any _ 2 2 [leaf, root] _ (strs2 leaf root w _ rfl)).mono ?_; rintro e w1 ⟨rfl, rfl⟩; rw [H2.out, dr]) | ((with_reducible show Calls _ _ #[.slice A k c] _ _); refine (rsums_any A k c m _ (H.out.kept HB1.out)).mono ?_; rintro e w1 ⟨rfl, rfl⟩; rw [hs]))
          | (go_at_call 117; refine (HCL.out _ HB1.out).mono ?_; rintro e w2 ⟨rfl, b2⟩; have HB2 := Lib.hid (below_thenB HB1.out HB1.out.size b2); clear b2))
        go_ret
        exact ⟨ret_bool (by rw [HV.out]; rfl), HB2.out⟩
      | true =>
        go_enter Tryd.func86, Tryd.ntmps86
        go_wp2_with (first
          | (go_at_call 27; first | ((with_reducible show Calls _ _ #[.slice (some _) 2 2] (World.alloc w _) _); refine (rsums_any _ 2 2 [leaf, root] _ (strs2 leaf root w _ rfl)).mono ?_; rintro e w1 ⟨rfl, rfl⟩; rw [H2.out, dr]) | ((with_reducible show Calls _ _ #[.slice A k c] _ _); refine (rsums_any A k c m _ (H.out.kept HB1.out)).mono ?_; rintro e w1 ⟨rfl, rfl⟩; rw [hs]))
          | (go_at_call 117; refine (HCL.out _ HB1.out).mono ?_; rintro e w2 ⟨rfl, b2⟩; have HB2 := Lib.hid (below_thenB HB1.out HB1.out.size b2); clear b2))
        go_ret
        exact ⟨ret_bool (by rw [HV.out]; rfl), HB2.out⟩
  · have dr := decide_eq_false hr
    have HV : Hid (verB leaf i n m root = false) := Lib.hid (by rw [verB, dr]; rfl)
    clear hr
    go_enter Tryd.func86, Tryd.ntmps86
    go_wp2_with (go_at_call 27; (with_reducible show Calls _ _ #[.slice (some _) 2 2] (World.alloc w _) _); refine (rsums_any _ 2 2 [leaf, root] _ (strs2 leaf root w _ rfl)).mono ?_; rintro e w1 ⟨rfl, rfl⟩; rw [H2.out, dr])
    go_ret
    exact ⟨ret_bool HV.out.symm, HB1.out⟩

/-- A block of n bytes in blocks of a size. -/
def seeB (root : List UInt8) (n size b : Nat) (x : List UInt8) (path : List (List UInt8)) : Bool :=
  decide (x.length = min size (n - b * size)) && verB (mleaf x) b ((n - 1) / size + 1) path root

theorem len_ne {a b : Nat} (h : ¬ a = b) : ((a : Int) != (b : Int)) = true := by rw [bne_iff_ne]; omega
theorem len_neF {a b : Nat} (h : a = b) : ((a : Int) != (b : Int)) = false := by subst h; simp

set_option maxRecDepth 100000 in
set_option maxHeartbeats 2000000 in
theorem see_any (root x : List UInt8) (m : List (List UInt8)) (n size b k c nx cx : Nat) (A Ax : Option Addr) (w : World) (h : TS w A k c m) (hx : BS w Ax nx cx x) (hT : Tabs w)
    (h1 : 1 ≤ n) (hn : n < 9223372036854775808) (hs : 1 ≤ size) (hs2 : size < 9223372036854775808) (hb : b < (n - 1) / size + 1) (hq : (n - 1) / size + 1 ≤ 256) :
    Calls Tryd.prog 62 #[.string (strB root), .int .i64 (n : Int), .int .i64 (size : Int), .int .i64 (b : Int), .slice Ax nx cx, .slice A k c] w fun e w' => e = .returned (.bool (seeB root n size b x m)) ∧ Below w.heap.size w w' := by
  have hk : k * 16 ≤ 140737488355328 := by have := h.2.2.1; unfold lim at this; omega
  have hnx := hx.len_le
  have H := Lib.hid h
  have HX := Lib.hid hx
  have HT := Lib.hid hT
  have HBS : Hid (b * size < n) := Lib.hid (by
    have h3 : b * size ≤ ((n - 1) / size) * size := Nat.mul_le_mul_right _ (by omega)
    have h4 := Nat.div_mul_le_self (n - 1) size
    omega)
  obtain ⟨q, hqd⟩ : ∃ q, q = (n - 1) / size + 1 := ⟨_, rfl⟩
  obtain ⟨ex, hex⟩ : ∃ ex, ex = min size (n - b * size) := ⟨_, rfl⟩
  have HV : Hid (seeB root n size b x m = (decide (nx = ex) && verB (mleaf x) b q m root)) := Lib.hid (by rw [seeB, ← hqd, ← hex, hx.1])
  rw [← hqd] at hb hq
  have HQ := Lib.hid hqd.symm
  have HE := Lib.hid hex.symm
  have HML := Lib.hid (mleaf_length x)
  clear hqd hex h hx hT
  by_cases hc : nx = ex
  · have HC := Lib.hid hc
    have e1 := len_neF hc
    clear hc
    go_enter Tryd.func62, Tryd.ntmps62
    go_wp2_with (first
      | (go_at_call 82; refine (count_any n size _ h1 hn hs hs2).mono ?_; rintro e w1 ⟨rfl, rfl⟩; rw [HQ.out])
      | (go_at_call 83; refine (extent_any n size b _ h1 hn hs hs2 (by omega) HBS.out).mono ?_; rintro e w1 ⟨rfl, rfl⟩; rw [HE.out])
      | (go_at_call 85; refine (leaf_any Ax nx cx x _ HX.out HT.out).mono ?_; rintro e w2 ⟨rfl, b2⟩; have HB2 := Lib.hid b2; clear b2)
      | (go_at_call 84; refine (verify_any (mleaf x) root m b q k c A _ (H.out.kept HB2.out) (HT.out.kept HB2.out) HML.out hb hq).mono ?_; rintro e w3 ⟨rfl, b3⟩; have HB3 := Lib.hid (below_then HB2.out b3); clear b3))
    go_ret
    exact ⟨ret_bool (by rw [HV.out, decide_eq_true HC.out]; rfl), HB3.out⟩
  · have HC := Lib.hid hc
    have e1 := len_ne hc
    clear hc
    go_enter Tryd.func62, Tryd.ntmps62
    go_wp2_with (first
      | (go_at_call 82; refine (count_any n size _ h1 hn hs hs2).mono ?_; rintro e w1 ⟨rfl, rfl⟩; rw [HQ.out])
      | (go_at_call 83; refine (extent_any n size b _ h1 hn hs hs2 (by omega) HBS.out).mono ?_; rintro e w1 ⟨rfl, rfl⟩; rw [HE.out]))
    go_ret
    exact ⟨ret_bool (by rw [HV.out, decide_eq_false HC.out]; rfl), Below.refl _ _⟩
end Go.Proofs.YtgjgofjabdjclaaDoor
