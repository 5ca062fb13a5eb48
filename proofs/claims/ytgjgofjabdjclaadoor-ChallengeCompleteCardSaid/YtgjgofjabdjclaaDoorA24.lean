/- Several texts in one: Mer0, Mer1, Mer2, Mer3. -/
import Derived.Test.YtgjgofjabdjclaaDoorA20
import Derived.Test.YtgjgofjabdjclaaDoorA9
import Derived.Test.YtgjgofjabdjclaaDoorShelf
import Derived.Test.YtgjgofjabdjclaaDoorA12
import Derived.Test.YtgjgofjabdjclaaDoorA5
/- Contracts of merkle.Leaf, merkle.Node, of the reference's, of ref03.Join for any strings, and the plain tree of sums. -/
namespace Go.Proofs.YtgjgofjabdjclaaDoor
open Go Go.RowKit Gf Sha

/-- The leaf of bytes. -/
def mleaf (x : List UInt8) : List UInt8 := sha (0 :: x)
/-- The node of two sums. -/
def mnode (l r : List UInt8) : List UInt8 := sha ([1] ++ (l ++ r))

set_option maxRecDepth 100000 in
set_option maxHeartbeats 1000000 in
theorem leaf_any (A : Option Addr) (n c : Nat) (x : List UInt8) (w : World) (h : BS w A n c x) (hT : Tabs w) :
    Calls Tryd.prog 85 #[.slice A n c] w fun e w' => e = .returned (.string (strB (mleaf x))) ∧ Below w.heap.size w w' := by
  have hn := h.len_le
  have H := Lib.hid h
  have HT := Lib.hid hT
  have HS := Lib.hid hT.size
  have HN1 : Hid (([] : List UInt8).length + 1 ≤ 1152921504606846976) := Lib.hid (by simp)
  have HN2 : Hid (([0] : List UInt8).length + n ≤ 1152921504606846976) := Lib.hid (by simp; omega)
  have HN3 : Hid ((0 :: x : List UInt8).length ≤ 1125899906842624) := Lib.hid (by rw [List.length_cons, H.out.1]; omega)
  have HF : Hid (FarB A n (· = w.heap.size)) := Lib.hid (H.out.far_new (fun k e => by omega))
  clear h hT
  go_enter Tryd.func85, Tryd.ntmps85
  go_wp2_with (first
    | (go_at_call 99; refine (new_any w HT.out).mono ?_; rintro e w1 ⟨rfl, b1, b2⟩; have HB1 := Lib.hid b1; have HB2 := Lib.hid b2; clear b1 b2)
    | (go_at_call 100; (with_reducible show Calls _ _ _ (World.alloc w1 _) _); refine (write_any w.heap.size 1 1 _ 142 [] [0] [] _ (HB1.out.kept ((Below.refl _ _).alloc (Nat.le_refl _) _)) (BL.bs (l := [0]) (BL.new w1 5 ([0].map B)) rfl (by decide)) ((HT.out.kept HB2.out).kept ((Below.refl _ _).alloc (Nat.le_refl _) _)) HS.out (fun g' o' _ e e2 => by cases e; have e2 : w1.heap.size = w.heap.size := e2; have := HB1.out.lt; omega) HN1.out).mono ?_; rintro e w2 ⟨rfl, r1, r2⟩; rw [List.nil_append] at r1; have HR1 := Lib.hid r1; have HR2 : Hid (Kp (· = w.heap.size) w1 w2) := Lib.hid (((Kp.refl _ _).alloc _).trans r2); clear r1 r2)
    | (go_at_call 100; refine (write_any w.heap.size n c A 142 [0] x [] w2 HR1.out ((H.out.kept HB2.out).kpf HR2.out HF.out) ((HT.out.kept HB2.out).kp HR2.out (by rintro k rfl; exact HS.out)) HS.out HF.out HN2.out).mono ?_; rintro e w3 ⟨rfl, r1, r2⟩; have HR3 : Hid (Hs w3 w.heap.size 142 [] (0 :: x)) := Lib.hid r1; have HR4 : Hid (Kp (· = w.heap.size) w1 w3) := Lib.hid (HR2.out.trans r2); clear r1 r2)
    | (go_at_call 101; refine (sum_any w.heap.size 142 (0 :: x) [] w3 HR3.out ((HT.out.kept HB2.out).kp HR4.out (by rintro k rfl; exact HS.out)) HN3.out).mono ?_; rintro e w4 ⟨rfl, r1⟩))
  go_ret
  have k1 : Below w.heap.size w w3 := ((Kp.of_below (S := fun _ => False) HB2.out).after HR4.out (fun i hi e => by omega)).below (Nat.le_refl _) (fun _ h => h.elim)
  exact ⟨rfl, below_thenB k1 k1.size r1⟩

theorem strs3 (a b c : List UInt8) (w : World) (g : Nat) (h : g = w.heap.size) : TS (w.alloc (.cells #[.string (strB a), .string (strB b), .string (strB c)] 9)) (some ⟨g, 0, none⟩) 3 3 [a, b, c] := by
  subst h
  exact TS.of_blk (m := [a, b, c]) (BL.new w 9 _) rfl (by decide)
theorem flat3 (a b c : List UInt8) : [a, b, c].flatten = a ++ (b ++ c) := by simp
theorem lens3 (a b c : List UInt8) (ha : a.length ≤ lim) (hb : b.length ≤ lim) (hc : c.length ≤ lim) (k : Nat) (hk : k < 3) : (gR [a, b, c] k).length ≤ lim := by
  match k, hk with
  | 0, _ => exact ha
  | 1, _ => exact hb
  | 2, _ => exact hc
theorem one_str : ({ data := #[1] } : ByteArray) = strB [1] := rfl

set_option maxRecDepth 100000 in
set_option maxHeartbeats 1000000 in
theorem node_any (l r : List UInt8) (w : World) (hT : Tabs w) (hl : l.length ≤ 1048576) (hr : r.length ≤ 1048576) :
    Calls Tryd.prog 90 #[.string (strB l), .string (strB r)] w fun e w' => e = .returned (.string (strB (mnode l r))) ∧ Below w.heap.size w w' := by
  have HT := Lib.hid hT
  have HL : Hid ([[1], l, r].flatten.length ≤ 1125899906842624) := Lib.hid (by rw [flat3]; simp; omega)
  have HK : Hid (∀ k, k < 3 → (gR [[1], l, r] k).length ≤ lim) := Lib.hid (lens3 _ _ _ (by decide) (by unfold lim; omega) (by unfold lim; omega))
  clear hT hl hr
  go_enter Tryd.func90, Tryd.ntmps90
  rw [one_str]
  go_wp2_with (go_at_call 97; (with_reducible show Calls _ _ _ (World.alloc w _) _); refine (join_any _ 3 3 [[1], l, r] _ (strs3 [1] l r w _ rfl) (HT.out.kept ((Below.refl _ _).alloc (Nat.le_refl _) _)) HL.out HK.out).mono ?_; rintro e w1 ⟨rfl, b1⟩)
  go_ret
  exact ⟨rfl, (((Below.refl _ _).alloc (Nat.le_refl _) _).trans (b1.mono (by simp)))⟩

set_option maxRecDepth 100000 in
set_option maxHeartbeats 1000000 in
theorem rjoin_any (A : Option Addr) (n c : Nat) (m : List (List UInt8)) (w : World) (h : TS w A n c m) (hN : m.flatten.length ≤ 1048576) :
    Calls Tryd.prog 20 #[.slice A n c] w fun e w' => e = .returned (.string (strB (sha m.flatten))) ∧ Below w.heap.size w w' := by
  have hn : n * 16 ≤ 140737488355328 := by have := h.2.2.1; unfold lim at this; omega
  have H := Lib.hid h
  have HN := Lib.hid hN
  clear h hN
  go_enter Tryd.func20, Tryd.ntmps20
  rw [strB_nil]
  go_wp2_with fail
  go_loopw [3, 8] (fun v iv wr => wr = w ∧ ∃ k : Nat, k ≤ n ∧ v = .string (strB (m.take k).flatten) ∧ iv = .int .i64 (k : Int)) (fun _ iv _ => n - (intOf iv).toNat)
  case atStart => exact ⟨rfl, 0, by omega, by simp, rfl⟩
  case round =>
    obtain ⟨rfl, k, hk, rfl, rfl⟩ := hrel
    by_cases hlt : k < n
    · obtain ⟨g, o, rfl, q1⟩ := H.out.at_ (Below.refl _ _) hlt
      have e1 := flat_take (m := m) (k := k) (by rw [H.out.1]; exact hlt)
      have ck := cat_ok (m.take k).flatten (gR m k) (by
        have h1 := flat_le m (k + 1)
        rw [e1, List.length_append] at h1
        have := HN.out
        omega)
      have e2 : strB (m.take k).flatten ++ strB (gR m k) = strB (m.take (k + 1)).flatten := by rw [strB_app, e1]
      clear e1
      go_wp2_with fail
      go_roundw
      case rel => exact ⟨trivial, k + 1, by omega, rfl, by go_num⟩
      case measure => simp [intOf]; omega
    · obtain rfl : k = n := by omega
      have e1 : (m.take k).flatten = m.flatten := by rw [List.take_of_length_le (by rw [H.out.1]; exact Nat.le_refl _)]
      obtain ⟨T, hT⟩ : ∃ T, T = m.flatten := ⟨_, rfl⟩
      have HNT : Hid (T.length ≤ 1048576) := Lib.hid (by rw [hT]; exact HN.out)
      rw [e1, ← hT]
      have HTT := Lib.hid hT
      clear e1 hT
      go_wp2_with (first
        | ((with_reducible show wpList _ _ _ (⟨some 17, _, _, _, _, _⟩ :: _) _ _); refine wpList_convB _ rfl (.tmp 16) rfl T rfl ?_; intro w1 cap hc; have HC1 := Lib.hid hc; clear hc)
        | (go_at_call 48; refine (rsum_any _ T.length _ T w1 (HC1.out.bs (by have := HNT.out; unfold lim; omega)) HNT.out).mono ?_; rintro e w2 ⟨rfl, b2⟩))
      rw [← HTT.out]
      go_ret
      exact ⟨rfl, below_then HC1.out.2.2.1 b2⟩

set_option maxRecDepth 100000 in
set_option maxHeartbeats 1000000 in
theorem rnode_any (l r : List UInt8) (w : World) (hl : l.length ≤ 1000) (hr : r.length ≤ 1000) :
    Calls Tryd.prog 127 #[.string (strB l), .string (strB r)] w fun e w' => e = .returned (.string (strB (mnode l r))) ∧ Below w.heap.size w w' := by
  have HL : Hid ([[1], l, r].flatten.length ≤ 1048576) := Lib.hid (by rw [flat3]; simp; omega)
  clear hl hr
  go_enter Tryd.func127, Tryd.ntmps127
  rw [one_str]
  go_wp2_with (go_at_call 20; (with_reducible show Calls _ _ _ (World.alloc w _) _); refine (rjoin_any _ 3 3 [[1], l, r] _ (strs3 [1] l r w _ rfl) HL.out).mono ?_; rintro e w1 ⟨rfl, b1⟩)
  go_ret
  exact ⟨rfl, (((Below.refl _ _).alloc (Nat.le_refl _) _).trans (b1.mono (by simp)))⟩

set_option maxRecDepth 100000 in
set_option maxHeartbeats 1000000 in
theorem rleaf_any (A : Option Addr) (n c : Nat) (x : List UInt8) (w : World) (h : BS w A n c x) (hN : n ≤ 1000000) :
    Calls Tryd.prog 87 #[.slice A n c] w fun e w' => e = .returned (.string (strB (mleaf x))) ∧ Below w.heap.size w w' := by
  have H := Lib.hid h
  have HN := Lib.hid hN
  have HO : Hid ((w.alloc (.cells #[B 0] 5)).ownsRow w.heap.size 5 1 (.slice (some ⟨w.heap.size, 0, none⟩) 1 1) 1 (([0] : List UInt8).map B)) := Lib.hid (BL.own (BL.new w 5 ([0].map B)) (Nat.le_refl _) rfl (by decide))
  have HB : Hid (Below w.heap.size w (w.alloc (.cells #[B 0] 5))) := Lib.hid ((Below.refl _ _).alloc (Nat.le_refl _) _)
  clear h hN
  go_enter Tryd.func87, Tryd.ntmps87
  go_wp2_with (first
    | ((with_reducible show wpList _ _ _ (⟨some 5, _, _, _, _, _⟩ :: _) _ _); refine wpList_appB _ rfl (.tmp 3) (.tmp 4) rfl w.heap.size _ 1 _ rfl HO.out A n c x rfl (H.out.kept HB.out) (by have := HN.out; omega) HB.out.size ?_; intro v6 w6 hp; have HO6 : Hid (w6.ownsRow w.heap.size 5 1 v6 (1 + n) ((0 :: x).map B)) := Lib.hid hp.own; have HB6 := Lib.hid (hp.below HO.out HB.out (Nat.le_refl _) HB.out.size); obtain ⟨A6, c6, rfl, hb6⟩ := BS.of_own HO6.out (by have := HN.out; unfold lim; omega); clear hp)
    | (go_at_call 48; refine (rsum_any A6 (1 + n) c6 _ w6 hb6 (by have := HN.out; omega)).mono ?_; rintro e w2 ⟨rfl, b2⟩))
  go_ret
  exact ⟨rfl, below_thenB HB6.out HB6.out.size b2⟩
end Go.Proofs.YtgjgofjabdjclaaDoor
/- Contracts of merkle.split, isSum, areSums, count, extent and of the reference's Split and Sums. -/
namespace Go.Proofs.YtgjgofjabdjclaaDoor
open Go Go.RowKit Gf Sha

/-- The greatest power of two below n. -/
def spl (n : Nat) : Nat := 2 ^ (Lib.bitLen (n - 1) - 1)
theorem spl_dec : ∀ n : Fin 257, 2 ≤ n.val → 1 ≤ spl n.val ∧ spl n.val < n.val ∧ n.val ≤ 2 * spl n.val ∧ 1 ≤ Lib.bitLen (n.val - 1) ∧ Lib.bitLen (n.val - 1) ≤ 8 := by decide +kernel
theorem spl_pow : ∀ n : Fin 257, ∀ j : Fin 9, 2 ≤ n.val → 2 ^ j.val ≤ spl n.val → (2 * 2 ^ j.val < n.val → 2 ^ (j.val + 1) ≤ spl n.val ∧ j.val + 1 < 9) ∧ (n.val ≤ 2 * 2 ^ j.val → 2 ^ j.val = spl n.val) := by decide +kernel
theorem spl_parts {n : Nat} (h2 : 2 ≤ n) (h : n ≤ 256) : 1 ≤ spl n ∧ spl n < n ∧ n ≤ 2 * spl n ∧ 1 ≤ Lib.bitLen (n - 1) ∧ Lib.bitLen (n - 1) ≤ 8 := spl_dec ⟨n, by omega⟩ h2

section
variable {P : Program} (w : World) {ops : Array Oper} {rest : List Oper} {o : Oper} {a : Act} {Q : Exit → Act → World → Prop}
theorem wrapI (n : Nat) (h : n < 9223372036854775808) : IntKind.i64.wrap (n : Int) = (n : Int) := by
  show (if (true && decide ((n : Int) % 18446744073709551616 ≥ 9223372036854775808)) = true then (n : Int) % 18446744073709551616 - 18446744073709551616 else (n : Int) % 18446744073709551616) = (n : Int)
  rw [if_neg (by simp; omega)]
  omega
/-- 1 << s as an int. -/
theorem wpList_shlI (hg : o.guard = none) (x y : Operand) (t t2 : TypeId) (hop : o.op = .binOp .shl t x y t2) (s : Nat) (zy : Int) (hx : a.eval x = .int .i64 1) (hy : a.eval y = .int .i64 zy) (hs : zy = (s : Int)) (hs64 : s ≤ 62)
    (h : wpList P ops Q rest (a.put o.dst (.int .i64 ((2 ^ s : Nat) : Int))) w) : wpList P ops Q (o :: rest) a w :=
  wpList_plain hg fun K hK => by
    subst hs
    have e : ∀ w', (binOp .shl t (.int .i64 1) (.int .i64 (s : Int))).run P w' = .ok (.int .i64 ((2 ^ s : Nat) : Int)) w' := fun w' => by
      have e3 : (1 : Int) * 2 ^ min (s : Int).toNat IntKind.i64.bits = ((2 ^ s : Nat) : Int) := by
        rw [Int.toNat_natCast, Nat.min_eq_left (by show s ≤ 64; omega), Int.one_mul, Int.natCast_pow]; rfl
      show (Op.shift .shl .i64 1 .i64 (s : Int)).run P w' = _
      unfold Op.shift
      rw [if_neg (by omega)]
      show Result.ok (Value.int IntKind.i64 (IntKind.i64.wrap _)) w' = _
      rw [e3]
      have hb : 2 ^ s ≤ 2 ^ 62 := Nat.pow_le_pow_right (by omega) hs64
      have hw : IntKind.i64.wrap ((2 ^ s : Nat) : Int) = ((2 ^ s : Nat) : Int) := by
        refine wrapI _ (Nat.lt_of_le_of_lt hb (by decide))
      rw [hw]
    unfold Oper.wp execOp
    simp only [hop, hx, hy]
    simp [eqGuard, Result.andThen, e]
    exact hK _ _ (by simpa using h)
/-- x / y for ints that are casts. -/
theorem wpList_quoN (hg : o.guard = none) (x y : Operand) (t t2 : TypeId) (hop : o.op = .binOp .quo t x y t2) (X Y : Nat) (zx zy : Int) (hx : a.eval x = .int .i64 zx) (hy : a.eval y = .int .i64 zy) (hX : zx = (X : Int)) (hY : zy = (Y : Int)) (hY0 : 0 < Y) (hb : X < 9223372036854775808)
    (h : wpList P ops Q rest (a.put o.dst (.int .i64 ((X / Y : Nat) : Int))) w) : wpList P ops Q (o :: rest) a w :=
  wpList_plain hg fun K hK => by
    subst hX hY
    have e : ∀ w', (binOp .quo t (.int .i64 (X : Int)) (.int .i64 (Y : Int))).run P w' = .ok (.int .i64 ((X / Y : Nat) : Int)) w' := fun w' => by
      have hne : ¬ Y = 0 := by omega
      show (Op.intDiv .quo .i64 (X : Int) (Y : Int)).run P w' = _
      unfold Op.intDiv
      simp [hne]
      have h5 : X / Y ≤ X := Nat.div_le_self _ _
      rw [show (X : Int) / (Y : Int) = ((X / Y : Nat) : Int) by simp]
      exact wrapI _ (by omega)
    unfold Oper.wp execOp
    simp only [hop, hx, hy]
    simp [eqGuard, Result.andThen, e]
    exact hK _ _ (by simpa using h)
end

theorem split_any (n : Nat) (w : World) (h2 : 2 ≤ n) (h : n ≤ 256) :
    Calls Tryd.prog 96 #[.int .i64 (n : Int)] w fun e w' => e = .returned (.int .i64 (spl n : Int)) ∧ w' = w := by
  obtain ⟨s1, s2, s3, s4, s5⟩ := spl_parts h2 h
  obtain ⟨b, hb⟩ : ∃ b, b = Lib.bitLen (n - 1) := ⟨_, rfl⟩
  have HB : Hid ((Lib.bitLen ((n : Int) - 1).toNat : Int) = (b : Int)) := Lib.hid (by rw [show ((n : Int) - 1).toNat = n - 1 by omega, hb])
  have HE : Hid (spl n = 2 ^ (b - 1)) := Lib.hid (by rw [hb]; rfl)
  rw [← hb] at s4 s5
  have HR : Hid ((b : Int) - 1 = ((b - 1 : Nat) : Int)) := Lib.hid (by omega)
  have H6 : Hid (b - 1 ≤ 62) := Lib.hid (by omega)
  clear hb s1 s2 s3
  go_enter Tryd.func96, Tryd.ntmps96
  go_wp2_with (first
    | (go_at_call 78; refine (Tryd.bits_Len _ w (by omega) (by omega)).mono ?_; rintro e w1 ⟨rfl, rfl⟩; rw [HB.out])
    | ((with_reducible show wpList _ _ _ (⟨some 8, _, _, _, _, _⟩ :: _) _ _); refine wpList_shlI _ rfl _ (.tmp 7) _ _ rfl (b - 1) _ rfl rfl HR.out H6.out ?_))
  go_ret
  exact ⟨by rw [HE.out]; rfl, rfl⟩

theorem rsplit_any (n : Nat) (w : World) (h2 : 2 ≤ n) (h : n ≤ 256) :
    Calls Tryd.prog 126 #[.int .i64 (n : Int)] w fun e w' => e = .returned (.int .i64 (spl n : Int)) ∧ w' = w := by
  obtain ⟨s1, s2, s3, s4, s5⟩ := spl_parts h2 h
  have HSP : Hid (∀ j : Nat, j < 9 → 2 ^ j ≤ spl n → (2 * 2 ^ j < n → 2 ^ (j + 1) ≤ spl n ∧ j + 1 < 9) ∧ (n ≤ 2 * 2 ^ j → 2 ^ j = spl n)) := Lib.hid (fun j hj hp => spl_pow ⟨n, by omega⟩ ⟨j, hj⟩ h2 hp)
  clear s4 s5
  go_enter Tryd.func126, Tryd.ntmps126
  go_wp2_with fail
  go_loopw [3] (fun v wr => wr = w ∧ ∃ k j : Nat, v = .int .i64 (k : Int) ∧ 1 ≤ k ∧ k < n ∧ k ≤ spl n ∧ Hid (k = 2 ^ j ∧ j < 9)) (fun v _ => 256 - (intOf v).toNat)
  case atStart => exact ⟨rfl, 1, 0, rfl, by omega, by omega, s1, Lib.hid ⟨rfl, by omega⟩⟩
  case round =>
    obtain ⟨rfl, k, j, rfl, hk1, hkn, hks, hkj⟩ := hrel
    obtain ⟨p1, p2⟩ := HSP.out j hkj.out.2 (by rw [← hkj.out.1]; exact hks)
    rw [← hkj.out.1] at p1 p2
    rw [Nat.pow_succ, ← hkj.out.1] at p1
    by_cases hlt : 2 * k < n
    · obtain ⟨p3, p4⟩ := p1 hlt
      have hlt2 : (k : Int) < (n : Int) - (k : Int) := by omega
      have HK : Hid (k * 2 = 2 ^ (j + 1) ∧ j + 1 < 9) := Lib.hid ⟨by rw [Nat.pow_succ, ← hkj.out.1], p4⟩
      clear p1 p2 p4
      go_wp2_with fail
      go_roundw
      case rel => exact ⟨trivial, k * 2, j + 1, by go_num, by omega, by omega, p3, HK⟩
      case measure => simp [intOf]; omega
    · have hlt2 : ¬ (k : Int) < (n : Int) - (k : Int) := by omega
      have HQ := Lib.hid (p2 (by omega))
      clear p1 p2
      go_wp2_with fail
      go_ret
      exact ⟨by rw [← HQ.out]; rfl, rfl⟩

theorem isSum_any (s : List UInt8) (w : World) :
    Calls Tryd.prog 88 #[.string (strB s)] w fun e w' => e = .returned (.bool (decide (s.length = 32))) ∧ w' = w := by
  have e1 : (((strB s).size : Int) == 32) = decide (s.length = 32) := by
    rw [strB_size]
    by_cases h : s.length = 32
    · rw [h]; rfl
    · rw [decide_eq_false h]; simpa using (by omega : ¬ (s.length : Int) = 32)
  go_enter Tryd.func88, Tryd.ntmps88
  go_wp2_with fail
  go_ret
  exact ⟨rfl, rfl⟩

/-- All of these are sums. -/
def sumsB (m : List (List UInt8)) : Bool := m.all fun s => decide (s.length = 32)
theorem sums_false {m : List (List UInt8)} {k : Nat} (hk : k < m.length) (h : (gR m k).length ≠ 32) : sumsB m = false := by
  rw [gR_eq hk] at h
  rw [sumsB, List.all_eq_false]
  exact ⟨m[k], List.getElem_mem hk, by simpa using h⟩
theorem sums_true {m : List (List UInt8)} (h : ∀ k, k < m.length → (gR m k).length = 32) : sumsB m = true := by
  rw [sumsB, List.all_eq_true]
  intro x hx
  obtain ⟨i, hi, rfl⟩ := List.getElem_of_mem hx
  have := h i hi
  rw [gR_eq hi] at this
  simpa using this

set_option maxHeartbeats 400000 in
theorem areSums_any (A : Option Addr) (n c : Nat) (m : List (List UInt8)) (w : World) (h : TS w A n c m) :
    Calls Tryd.prog 115 #[.slice A n c] w fun e w' => e = .returned (.bool (sumsB m)) ∧ w' = w := by
  have hn : n * 16 ≤ 140737488355328 := by have := h.2.2.1; unfold lim at this; omega
  have H := Lib.hid h
  clear h
  go_enter Tryd.func115, Tryd.ntmps115
  go_wp2_with fail
  go_loopw [7] (fun iv wr => wr = w ∧ ∃ k : Nat, k ≤ n ∧ iv = .int .i64 (k : Int) ∧ Hid (∀ j, j < k → (gR m j).length = 32)) (fun iv _ => n - (intOf iv).toNat)
  case atStart => exact ⟨rfl, 0, by omega, rfl, Lib.hid (fun j hj => absurd hj (by omega))⟩
  case round =>
    obtain ⟨rfl, k, hk, rfl, hall⟩ := hrel
    by_cases hlt : k < n
    · obtain ⟨g, o, rfl, q1⟩ := H.out.at_ (Below.refl _ _) hlt
      by_cases h32 : (gR m k).length = 32
      · have hd := decide_eq_true h32
        have HH := Lib.hid h32
        clear h32
        go_wp2_with (go_at_call 88; refine (isSum_any (gR m k) _).mono ?_; rintro e w1 ⟨rfl, rfl⟩; rw [hd])
        go_roundw
        case rel => exact ⟨trivial, k + 1, by omega, by go_num, Lib.hid (fun j hj => by
          rcases Nat.lt_succ_iff_lt_or_eq.1 hj with h | rfl
          · exact hall.out j h
          · exact HH.out)⟩
        case measure => simp [intOf]; omega
      · have hd := decide_eq_false h32
        have HH := Lib.hid h32
        clear h32
        go_wp2_with (go_at_call 88; refine (isSum_any (gR m k) _).mono ?_; rintro e w1 ⟨rfl, rfl⟩; rw [hd])
        go_ret
        exact ⟨ret_bool (sums_false (by rw [H.out.1]; exact hlt) HH.out).symm, rfl⟩
    · obtain rfl : k = n := by omega
      go_wp2_with fail
      go_ret
      exact ⟨ret_bool (sums_true (by rw [H.out.1]; exact hall.out)).symm, rfl⟩

set_option maxHeartbeats 400000 in
theorem rsums_any (A : Option Addr) (n c : Nat) (m : List (List UInt8)) (w : World) (h : TS w A n c m) :
    Calls Tryd.prog 27 #[.slice A n c] w fun e w' => e = .returned (.bool (sumsB m)) ∧ w' = w := by
  have hn : n * 16 ≤ 140737488355328 := by have := h.2.2.1; unfold lim at this; omega
  have H := Lib.hid h
  clear h
  go_enter Tryd.func27, Tryd.ntmps27
  go_wp2_with fail
  go_loopw [7] (fun iv wr => wr = w ∧ ∃ k : Nat, k ≤ n ∧ iv = .int .i64 (k : Int) ∧ Hid (∀ j, j < k → (gR m j).length = 32)) (fun iv _ => n - (intOf iv).toNat)
  case atStart => exact ⟨rfl, 0, by omega, rfl, Lib.hid (fun j hj => absurd hj (by omega))⟩
  case round =>
    obtain ⟨rfl, k, hk, rfl, hall⟩ := hrel
    by_cases hlt : k < n
    · obtain ⟨g, o, rfl, q1⟩ := H.out.at_ (Below.refl _ _) hlt
      by_cases h32 : (gR m k).length = 32
      · have hd : (((strB (gR m k)).size : Int) != 32) = false := by rw [strB_size, h32]; rfl
        have HH := Lib.hid h32
        clear h32
        go_wp2_with fail
        go_roundw
        case rel => exact ⟨trivial, k + 1, by omega, by go_num, Lib.hid (fun j hj => by
          rcases Nat.lt_succ_iff_lt_or_eq.1 hj with h | rfl
          · exact hall.out j h
          · exact HH.out)⟩
        case measure => simp [intOf]; omega
      · have hd : (((strB (gR m k)).size : Int) != 32) = true := by rw [strB_size]; simpa using (by omega : ¬ ((gR m k).length : Int) = 32)
        have HH := Lib.hid h32
        clear h32
        go_wp2_with fail
        go_ret
        exact ⟨ret_bool (sums_false (by rw [H.out.1]; exact hlt) HH.out).symm, rfl⟩
    · obtain rfl : k = n := by omega
      go_wp2_with fail
      go_ret
      exact ⟨ret_bool (sums_true (by rw [H.out.1]; exact hall.out)).symm, rfl⟩

theorem count_any (n size : Nat) (w : World) (h1 : 1 ≤ n) (h : n < 9223372036854775808) (hs : 1 ≤ size) (hs2 : size < 9223372036854775808) :
    Calls Tryd.prog 82 #[.int .i64 (n : Int), .int .i64 (size : Int)] w fun e w' => e = .returned (.int .i64 (((n - 1) / size + 1 : Nat) : Int)) ∧ w' = w := by
  have HR : Hid ((n : Int) - 1 = ((n - 1 : Nat) : Int)) := Lib.hid (by omega)
  have HQ : (n - 1) / size < 9223372036854775807 := by have := Nat.div_le_self (n - 1) size; omega
  obtain ⟨q, hq⟩ : ∃ q, q = (n - 1) / size := ⟨_, rfl⟩
  rw [← hq] at HQ ⊢
  have HQD := Lib.hid hq.symm
  clear hq
  go_enter Tryd.func82, Tryd.ntmps82
  go_wp2_with ((with_reducible show wpList _ _ _ (⟨some 10, _, _, _, _, _⟩ :: _) _ _); refine wpList_quoN _ rfl (.tmp 8) (.tmp 9) _ _ rfl (n - 1) size _ _ rfl rfl HR.out rfl (by omega) (by omega) ?_; rw [HQD.out])
  go_ret
  exact ⟨by go_num, rfl⟩

theorem blocksOf_any (n size : Nat) (w : World) (h1 : 1 ≤ n) (h : n < 9223372036854775808) (hs : 1 ≤ size) (hs2 : size < 9223372036854775808) :
    Calls Tryd.prog 61 #[.int .i64 (n : Int), .int .i64 (size : Int)] w fun e w' => e = .returned (.int .i64 (((n - 1) / size + 1 : Nat) : Int)) ∧ w' = w := by
  have HR : Hid ((n : Int) - 1 = ((n - 1 : Nat) : Int)) := Lib.hid (by omega)
  have HQ : (n - 1) / size < 9223372036854775807 := by have := Nat.div_le_self (n - 1) size; omega
  obtain ⟨q, hq⟩ : ∃ q, q = (n - 1) / size := ⟨_, rfl⟩
  rw [← hq] at HQ ⊢
  have HQD := Lib.hid hq.symm
  clear hq
  go_enter Tryd.func61, Tryd.ntmps61
  go_wp2_with ((with_reducible show wpList _ _ _ (⟨_, .binOp .quo _ _ _ _, _, _, _, _⟩ :: _) _ _); refine wpList_quoN _ rfl _ _ _ _ rfl (n - 1) size _ _ rfl rfl HR.out rfl (by omega) (by omega) ?_; rw [HQD.out])
  go_ret
  exact ⟨by go_num, rfl⟩

theorem extent_any (n size b : Nat) (w : World) (h1 : 1 ≤ n) (h : n < 9223372036854775808) (hs : 1 ≤ size) (hs2 : size < 9223372036854775808) (_ : b < 9223372036854775808) (hbs : b * size < n) :
    Calls Tryd.prog 83 #[.int .i64 (n : Int), .int .i64 (size : Int), .int .i64 (b : Int)] w fun e w' => e = .returned (.int .i64 ((min size (n - b * size) : Nat) : Int)) ∧ w' = w := by
  obtain ⟨q, hq⟩ : ∃ q, q = b * size := ⟨_, rfl⟩
  have hm : (b : Int) * (size : Int) = (q : Int) := by rw [hq, Int.natCast_mul]
  rw [← hq] at hbs ⊢
  clear hq
  by_cases hc : size ≤ n - q
  · have e1 : min (size : Int) ((n : Int) - (q : Int)) = (size : Int) := by omega
    rw [Nat.min_eq_left hc]
    go_enter Tryd.func83, Tryd.ntmps83
    go_wp2_with fail
    go_ret
    exact ⟨rfl, rfl⟩
  · have e1 : min (size : Int) ((n : Int) - (q : Int)) = (n : Int) - (q : Int) := by omega
    rw [Nat.min_eq_right (by omega)]
    go_enter Tryd.func83, Tryd.ntmps83
    go_wp2_with fail
    go_ret
    exact ⟨by go_num, rfl⟩
end Go.Proofs.YtgjgofjabdjclaaDoor
/- Contracts of merkle.climb, merkle.Verify, merkle.See and of the reference's up, Verify, See. -/
namespace Go.Proofs.YtgjgofjabdjclaaDoor
open Go Go.RowKit Gf Sha

/-- The root out of a leaf and a path (from above). -/
def upR (leaf : List UInt8) : Nat → Nat → List (List UInt8) → List UInt8 × Bool
  | _, n, [] => if n = 1 then (leaf, true) else ([], false)
  | i, n, last :: rest =>
    if n = 1 then (leaf, false)
    else if i < spl n then (mnode (upR leaf i (spl n) rest).1 last, (upR leaf i (spl n) rest).2)
    else (mnode last (upR leaf (i - spl n) (n - spl n) rest).1, (upR leaf (i - spl n) (n - spl n) rest).2)
theorem mnode_length (l r : List UInt8) : (mnode l r).length = 32 := sha_length _
theorem mleaf_length (l : List UInt8) : (mleaf l).length = 32 := sha_length _
theorem upR_length {leaf : List UInt8} (h : leaf.length ≤ 32) : ∀ (r : List (List UInt8)) (i n : Nat), (upR leaf i n r).1.length ≤ 32 := by
  intro r
  induction r with
  | nil => intro i n; rw [upR]; split <;> simp [h]
  | cons a r ih =>
    intro i n
    rw [upR]
    split
    · exact h
    · split
      · rw [mnode_length]; exact Nat.le_refl _
      · rw [mnode_length]; exact Nat.le_refl _
theorem TS.pre {w : World} {A : Option Addr} {n c : Nat} {m : List (List UInt8)} (h : TS w A n c m) {k : Nat} (hk : k ≤ n) : TS w A k c (m.take k) := by
  refine ⟨by rw [List.length_take, h.1]; omega, by have := h.2.1; omega, by have := h.2.2.1; omega, fun j hj => ?_⟩
  have h1 := h.2.2.2 j (by omega)
  have h2 : gR (m.take k) j = gR m j := by
    rw [gR_eq (by rw [List.length_take, h.1]; omega), gR_eq (by rw [h.1]; omega), List.getElem_take]
  show ∃ g o, A = some ⟨g, o, none⟩ ∧ w.cell? ⟨g, o + j, none⟩ = some (.string (strB (gR (m.take k) j)))
  rw [h2]
  exact h1
theorem rev_take (a : List UInt8) (r : List (List UInt8)) : (a :: r).reverse.take r.length = r.reverse := by
  rw [List.reverse_cons]
  exact List.take_left' (by simp)
theorem rev_get (a : List UInt8) (r : List (List UInt8)) : gR (a :: r).reverse r.length = a := by
  rw [gR_eq (by simp), List.getElem_reverse]
  simp

set_option maxRecDepth 100000 in
set_option maxHeartbeats 2000000 in
theorem climb_any (leaf : List UInt8) (hleaf : leaf.length ≤ 32) : ∀ (r : List (List UInt8)) (i n : Nat) (A : Option Addr) (c : Nat) (w : World), TS w A r.length c r.reverse → Tabs w → (∀ x ∈ r, x.length = 32) → i < n → n ≤ 256 →
    Calls Tryd.prog 116 #[.string (strB leaf), .int .i64 (i : Int), .int .i64 (n : Int), .slice A r.length c] w fun e w' => e = .returned (.tuple #[.string (strB (upR leaf i n r).1), .bool (upR leaf i n r).2]) ∧ Below w.heap.size w w' := by
  intro r
  induction r with
  | nil =>
    intro i n A c w h hT h32 hi hn
    rw [List.length_nil]
    by_cases h1 : n = 1
    · have e1 : upR leaf i n [] = (leaf, true) := by rw [upR, if_pos h1]
      rw [e1]
      subst h1
      clear h hT
      go_enter Tryd.func116, Tryd.ntmps116
      go_wp2_with fail
      go_ret2
      exact ⟨rfl, Below.refl _ _⟩
    · have e1 : upR leaf i n [] = ([], false) := by rw [upR, if_neg h1]
      have e2 : ((n : Int) == 1) = false := by simpa using (by omega : ¬ (n : Int) = 1)
      rw [e1]
      clear h hT
      go_enter Tryd.func116, Tryd.ntmps116
      go_wp2_with fail
      go_ret2
      exact ⟨rfl, Below.refl _ _⟩
  | cons last rest ih =>
    intro i n A c w h hT h32 hi hn
    have hk : (rest.length + 1) * 16 ≤ 140737488355328 := by have := h.2.2.1; unfold lim at this; simpa using this
    have hcap : rest.length + 1 ≤ c := by simpa using h.2.1
    rw [List.length_cons] at h ⊢
    by_cases h1 : n = 1
    · have e1 : upR leaf i n (last :: rest) = (leaf, false) := by rw [upR, if_pos h1]
      rw [e1]
      have e3 : (((rest.length + 1 : Nat) : Int) == 0) = false := by simpa using (by omega : ¬ ((rest.length : Int) + 1) = 0)
      obtain ⟨m, hm⟩ : ∃ m, m = rest.length + 1 := ⟨_, rfl⟩
      rw [← hm] at e3 hk hcap ⊢
      subst h1
      clear h hT h32 ih hm
      go_enter Tryd.func116, Tryd.ntmps116
      go_wp2_with fail
      go_ret2
      exact ⟨rfl, Below.refl _ _⟩
    · obtain ⟨s1, s2, s3, _, _⟩ := spl_parts (n := n) (by omega) hn
      have e2 : ((n : Int) == 1) = false := by simpa using (by omega : ¬ (n : Int) = 1)
      have e3 : (((rest.length + 1 : Nat) : Int) == 0) = false := by simpa using (by omega : ¬ ((rest.length : Int) + 1) = 0)
      have HP : Hid (TS w A rest.length c rest.reverse) := Lib.hid (by have := h.pre (k := rest.length) (by omega); rw [rev_take] at this; exact this)
      have hq := h.2.2.2 rest.length (by omega)
      replace hq : ∃ g o, A = some ⟨g, o, none⟩ ∧ w.cell? ⟨g, o + rest.length, none⟩ = some (.string (strB (gR (last :: rest).reverse rest.length))) := hq
      rw [rev_get] at hq
      obtain ⟨g, o, rfl, q1⟩ := hq
      have HT := Lib.hid hT
      have HLL : Hid (last.length = 32) := Lib.hid (h32 last (by simp))
      have HRR : Hid (∀ x ∈ rest, x.length = 32) := Lib.hid (fun x hx => h32 x (List.mem_cons_of_mem _ hx))
      obtain ⟨k, hk2⟩ : ∃ k, k = spl n := ⟨_, rfl⟩
      rw [← hk2] at s1 s2 s3
      have HKS := Lib.hid hk2.symm
      have e1 : upR leaf i n (last :: rest) = if i < k then (mnode (upR leaf i k rest).1 last, (upR leaf i k rest).2) else (mnode last (upR leaf (i - k) (n - k) rest).1, (upR leaf (i - k) (n - k) rest).2) := by rw [upR, if_neg h1, hk2]
      rw [e1]
      have q1' : w.drew.cell? ⟨g, o + rest.length, none⟩ = some (.string (strB last)) := q1
      have IH := Lib.hid ih
      obtain ⟨m, hm⟩ : ∃ m, m = rest.length + 1 := ⟨_, rfl⟩
      obtain ⟨m0, hm0⟩ : ∃ m0, m0 = rest.length := ⟨_, rfl⟩
      have hmi : (m : Int) = (m0 : Int) + 1 := by omega
      have hw0 := wrapI m0 (by omega)
      have hw1 : (m0 : Int) ≤ (c : Int) := by omega
      have hw2 : (m0 : Int) < (m0 : Int) + 1 := by omega
      rw [← hm0] at HP q1 q1'
      rw [← hm] at e3 hk hcap ⊢
      have HM0 := Lib.hid hm0.symm
      clear h hT h32 ih e1 hk2 hm0 hm
      by_cases hlt : i < k
      · rw [if_pos hlt]
        have HUL : Hid ((upR leaf i k rest).1.length ≤ 1048576) := Lib.hid (by have := upR_length hleaf rest i k; omega)
        have HUL2 : Hid ((upR leaf i k rest).1.length ≤ 1000) := Lib.hid (by have := upR_length hleaf rest i k; omega)
        obtain ⟨U, hU⟩ : ∃ U, U = upR leaf i k rest := ⟨_, rfl⟩
        rw [← hU] at HUL HUL2 ⊢
        have HUU := Lib.hid hU.symm
        clear hU
        go_enter Tryd.func116, Tryd.ntmps116
        go_wp2_with fail
        refine Text.wp_region_text (fun _ => True) [(0, 4), (1, 4), (2, 4), (3, 4), (4, 4), (5, 4), (6, 4), (7, 4), (8, 4), (9, 4), (11, 4), (10, 1), (12, 4)] (by kernel_rfl) (by kernel_rfl) (fun _ _ _ _ _ h => h) (trivial) ?_
        iterate 11 (refine Text.purek rfl rfl (fun K hK => ⟨_, fun w' => by go_simp <;> rfl, ?_⟩); go_simp; refine hK _ ?_; clear hK K)
        (refine Text.readk rfl rfl (fun K hK => ⟨_, by go_simp <;> rfl, ?_⟩); go_simp; refine hK _ ?_; clear hK K)
        (refine Text.purek rfl rfl (fun K hK => ⟨_, fun w' => by go_simp <;> rfl, ?_⟩); go_simp; refine hK _ ?_; clear hK K)
        refine Text.done ?_
        go_wp2_with (first
          | (go_at_call 96; refine (split_any n _ (by omega) hn).mono ?_; rintro e w1 ⟨rfl, rfl⟩; rw [HKS.out])
          | (go_at_call 116; rw [← HM0.out]; refine (IH.out i k _ c _ (by rw [HM0.out]; exact HP.out.drew) HT.out.drew HRR.out hlt (by omega)).mono ?_; rintro e w2 ⟨rfl, b2⟩; rw [HUU.out]; have HB2 : Hid (Below w.heap.size w w2) := Lib.hid (below_ofDrew b2); clear b2)
          | (go_at_call 90; refine ((node_any U.1 last _ (HT.out.kept HB2.out) HUL.out (by rw [HLL.out]; decide))).mono ?_; rintro e w3 ⟨rfl, b3⟩; have HB3 : Hid (Below w.heap.size w w3) := Lib.hid (below_then HB2.out b3); clear b3))
        go_ret2
        exact ⟨rfl, HB3.out⟩
      · rw [if_neg hlt]
        have HUL : Hid ((upR leaf (i - k) (n - k) rest).1.length ≤ 1048576) := Lib.hid (by have := upR_length hleaf rest (i - k) (n - k); omega)
        have HUL2 : Hid ((upR leaf (i - k) (n - k) rest).1.length ≤ 1000) := Lib.hid (by have := upR_length hleaf rest (i - k) (n - k); omega)
        obtain ⟨U, hU⟩ : ∃ U, U = upR leaf (i - k) (n - k) rest := ⟨_, rfl⟩
        rw [← hU] at HUL HUL2 ⊢
        have HUU := Lib.hid hU.symm
        clear hU
        have ei : (i : Int) - (k : Int) = ((i - k : Nat) : Int) := by omega
        have en : (n : Int) - (k : Int) = ((n - k : Nat) : Int) := by omega
        go_enter Tryd.func116, Tryd.ntmps116
        go_wp2_with fail
        refine Text.wp_region_text (fun _ => True) [(0, 4), (1, 4), (2, 4), (3, 4), (4, 4), (5, 4), (6, 4), (7, 4), (8, 4), (9, 4), (11, 4), (10, 1), (12, 4)] (by kernel_rfl) (by kernel_rfl) (fun _ _ _ _ _ h => h) (trivial) ?_
        iterate 11 (refine Text.purek rfl rfl (fun K hK => ⟨_, fun w' => by go_simp <;> rfl, ?_⟩); go_simp; refine hK _ ?_; clear hK K)
        (refine Text.readk rfl rfl (fun K hK => ⟨_, by go_simp <;> rfl, ?_⟩); go_simp; refine hK _ ?_; clear hK K)
        (refine Text.purek rfl rfl (fun K hK => ⟨_, fun w' => by go_simp <;> rfl, ?_⟩); go_simp; refine hK _ ?_; clear hK K)
        refine Text.done ?_
        go_wp2_with (first
          | (go_at_call 96; refine (split_any n _ (by omega) hn).mono ?_; rintro e w1 ⟨rfl, rfl⟩; rw [HKS.out])
          | (go_at_call 116; rw [← HM0.out]; refine (IH.out (i - k) (n - k) _ c _ (by rw [HM0.out]; exact HP.out.drew) HT.out.drew HRR.out (by omega) (by omega)).mono ?_; rintro e w2 ⟨rfl, b2⟩; rw [HUU.out]; have HB2 : Hid (Below w.heap.size w w2) := Lib.hid (below_ofDrew b2); clear b2)
          | (go_at_call 90; refine ((node_any last U.1 _ (HT.out.kept HB2.out) (by rw [HLL.out]; decide) HUL.out)).mono ?_; rintro e w3 ⟨rfl, b3⟩; have HB3 : Hid (Below w.heap.size w w3) := Lib.hid (below_then HB2.out b3); clear b3))
        go_ret2
        exact ⟨rfl, HB3.out⟩
set_option maxRecDepth 100000 in
set_option maxHeartbeats 2000000 in
theorem up_any (leaf : List UInt8) (hleaf : leaf.length ≤ 32) : ∀ (r : List (List UInt8)) (i n : Nat) (A : Option Addr) (c : Nat) (w : World), TS w A r.length c r.reverse → Tabs w → (∀ x ∈ r, x.length = 32) → i < n → n ≤ 256 →
    Calls Tryd.prog 117 #[.string (strB leaf), .int .i64 (i : Int), .int .i64 (n : Int), .slice A r.length c] w fun e w' => e = .returned (.tuple #[.string (strB (upR leaf i n r).1), .bool (upR leaf i n r).2]) ∧ Below w.heap.size w w' := by
  intro r
  induction r with
  | nil =>
    intro i n A c w h hT h32 hi hn
    rw [List.length_nil]
    by_cases h1 : n = 1
    · have e1 : upR leaf i n [] = (leaf, true) := by rw [upR, if_pos h1]
      rw [e1]
      subst h1
      clear h hT
      go_enter Tryd.func117, Tryd.ntmps117
      go_wp2_with fail
      go_ret2
      exact ⟨rfl, Below.refl _ _⟩
    · have e1 : upR leaf i n [] = ([], false) := by rw [upR, if_neg h1]
      have e2 : ((n : Int) == 1) = false := by simpa using (by omega : ¬ (n : Int) = 1)
      rw [e1]
      clear h hT
      go_enter Tryd.func117, Tryd.ntmps117
      go_wp2_with fail
      go_ret2
      exact ⟨rfl, Below.refl _ _⟩
  | cons last rest ih =>
    intro i n A c w h hT h32 hi hn
    have hk : (rest.length + 1) * 16 ≤ 140737488355328 := by have := h.2.2.1; unfold lim at this; simpa using this
    have hcap : rest.length + 1 ≤ c := by simpa using h.2.1
    rw [List.length_cons] at h ⊢
    by_cases h1 : n = 1
    · have e1 : upR leaf i n (last :: rest) = (leaf, false) := by rw [upR, if_pos h1]
      rw [e1]
      have e3 : (((rest.length + 1 : Nat) : Int) == 0) = false := by simpa using (by omega : ¬ ((rest.length : Int) + 1) = 0)
      obtain ⟨m, hm⟩ : ∃ m, m = rest.length + 1 := ⟨_, rfl⟩
      rw [← hm] at e3 hk hcap ⊢
      subst h1
      clear h hT h32 ih hm
      go_enter Tryd.func117, Tryd.ntmps117
      go_wp2_with fail
      go_ret2
      exact ⟨rfl, Below.refl _ _⟩
    · obtain ⟨s1, s2, s3, _, _⟩ := spl_parts (n := n) (by omega) hn
      have e2 : ((n : Int) == 1) = false := by simpa using (by omega : ¬ (n : Int) = 1)
      have e3 : (((rest.length + 1 : Nat) : Int) == 0) = false := by simpa using (by omega : ¬ ((rest.length : Int) + 1) = 0)
      have HP : Hid (TS w A rest.length c rest.reverse) := Lib.hid (by have := h.pre (k := rest.length) (by omega); rw [rev_take] at this; exact this)
      have hq := h.2.2.2 rest.length (by omega)
      replace hq : ∃ g o, A = some ⟨g, o, none⟩ ∧ w.cell? ⟨g, o + rest.length, none⟩ = some (.string (strB (gR (last :: rest).reverse rest.length))) := hq
      rw [rev_get] at hq
      obtain ⟨g, o, rfl, q1⟩ := hq
      have HT := Lib.hid hT
      have HLL : Hid (last.length = 32) := Lib.hid (h32 last (by simp))
      have HRR : Hid (∀ x ∈ rest, x.length = 32) := Lib.hid (fun x hx => h32 x (List.mem_cons_of_mem _ hx))
      obtain ⟨k, hk2⟩ : ∃ k, k = spl n := ⟨_, rfl⟩
      rw [← hk2] at s1 s2 s3
      have HKS := Lib.hid hk2.symm
      have e1 : upR leaf i n (last :: rest) = if i < k then (mnode (upR leaf i k rest).1 last, (upR leaf i k rest).2) else (mnode last (upR leaf (i - k) (n - k) rest).1, (upR leaf (i - k) (n - k) rest).2) := by rw [upR, if_neg h1, hk2]
      rw [e1]
      have q1' : w.drew.cell? ⟨g, o + rest.length, none⟩ = some (.string (strB last)) := q1
      have IH := Lib.hid ih
      obtain ⟨m, hm⟩ : ∃ m, m = rest.length + 1 := ⟨_, rfl⟩
      obtain ⟨m0, hm0⟩ : ∃ m0, m0 = rest.length := ⟨_, rfl⟩
      have hmi : (m : Int) = (m0 : Int) + 1 := by omega
      have hw0 := wrapI m0 (by omega)
      have hw1 : (m0 : Int) ≤ (c : Int) := by omega
      have hw2 : (m0 : Int) < (m0 : Int) + 1 := by omega
      rw [← hm0] at HP q1 q1'
      rw [← hm] at e3 hk hcap ⊢
      have HM0 := Lib.hid hm0.symm
      clear h hT h32 ih e1 hk2 hm0 hm
      by_cases hlt : i < k
      · rw [if_pos hlt]
        have HUL : Hid ((upR leaf i k rest).1.length ≤ 1048576) := Lib.hid (by have := upR_length hleaf rest i k; omega)
        have HUL2 : Hid ((upR leaf i k rest).1.length ≤ 1000) := Lib.hid (by have := upR_length hleaf rest i k; omega)
        obtain ⟨U, hU⟩ : ∃ U, U = upR leaf i k rest := ⟨_, rfl⟩
        rw [← hU] at HUL HUL2 ⊢
        have HUU := Lib.hid hU.symm
        clear hU
        go_enter Tryd.func117, Tryd.ntmps117
        go_wp2_with fail
        refine Text.wp_region_text (fun _ => True) [(0, 4), (1, 4), (2, 4), (3, 4), (4, 4), (6, 4), (7, 4), (8, 4), (9, 4), (10, 4), (5, 1), (11, 4), (12, 4)] (by kernel_rfl) (by kernel_rfl) (fun _ _ _ _ _ h => h) (trivial) ?_
        iterate 10 (refine Text.purek rfl rfl (fun K hK => ⟨_, fun w' => by go_simp <;> rfl, ?_⟩); go_simp; refine hK _ ?_; clear hK K)
        (refine Text.readk rfl rfl (fun K hK => ⟨_, by go_simp <;> rfl, ?_⟩); go_simp; refine hK _ ?_; clear hK K)
        iterate 2 (refine Text.purek rfl rfl (fun K hK => ⟨_, fun w' => by go_simp <;> rfl, ?_⟩); go_simp; refine hK _ ?_; clear hK K)
        refine Text.done ?_
        go_wp2_with (first
          | (go_at_call 126; refine (rsplit_any n _ (by omega) hn).mono ?_; rintro e w1 ⟨rfl, rfl⟩; rw [HKS.out])
          | (go_at_call 117; rw [← HM0.out]; refine (IH.out i k _ c _ (by rw [HM0.out]; exact HP.out.drew) HT.out.drew HRR.out hlt (by omega)).mono ?_; rintro e w2 ⟨rfl, b2⟩; rw [HUU.out]; have HB2 : Hid (Below w.heap.size w w2) := Lib.hid (below_ofDrew b2); clear b2)
          | (go_at_call 127; refine ((rnode_any U.1 last _ HUL2.out (by rw [HLL.out]; decide))).mono ?_; rintro e w3 ⟨rfl, b3⟩; have HB3 : Hid (Below w.heap.size w w3) := Lib.hid (below_then HB2.out b3); clear b3))
        go_ret2
        exact ⟨rfl, HB3.out⟩
      · rw [if_neg hlt]
        have HUL : Hid ((upR leaf (i - k) (n - k) rest).1.length ≤ 1048576) := Lib.hid (by have := upR_length hleaf rest (i - k) (n - k); omega)
        have HUL2 : Hid ((upR leaf (i - k) (n - k) rest).1.length ≤ 1000) := Lib.hid (by have := upR_length hleaf rest (i - k) (n - k); omega)
        obtain ⟨U, hU⟩ : ∃ U, U = upR leaf (i - k) (n - k) rest := ⟨_, rfl⟩
        rw [← hU] at HUL HUL2 ⊢
        have HUU := Lib.hid hU.symm
        clear hU
        have ei : (i : Int) - (k : Int) = ((i - k : Nat) : Int) := by omega
        have en : (n : Int) - (k : Int) = ((n - k : Nat) : Int) := by omega
        go_enter Tryd.func117, Tryd.ntmps117
        go_wp2_with fail
        refine Text.wp_region_text (fun _ => True) [(0, 4), (1, 4), (2, 4), (3, 4), (4, 4), (6, 4), (7, 4), (8, 4), (9, 4), (10, 4), (5, 1), (11, 4), (12, 4)] (by kernel_rfl) (by kernel_rfl) (fun _ _ _ _ _ h => h) (trivial) ?_
        iterate 10 (refine Text.purek rfl rfl (fun K hK => ⟨_, fun w' => by go_simp <;> rfl, ?_⟩); go_simp; refine hK _ ?_; clear hK K)
        (refine Text.readk rfl rfl (fun K hK => ⟨_, by go_simp <;> rfl, ?_⟩); go_simp; refine hK _ ?_; clear hK K)
        iterate 2 (refine Text.purek rfl rfl (fun K hK => ⟨_, fun w' => by go_simp <;> rfl, ?_⟩); go_simp; refine hK _ ?_; clear hK K)
        refine Text.done ?_
        go_wp2_with (first
          | (go_at_call 126; refine (rsplit_any n _ (by omega) hn).mono ?_; rintro e w1 ⟨rfl, rfl⟩; rw [HKS.out])
          | (go_at_call 117; rw [← HM0.out]; refine (IH.out (i - k) (n - k) _ c _ (by rw [HM0.out]; exact HP.out.drew) HT.out.drew HRR.out (by omega) (by omega)).mono ?_; rintro e w2 ⟨rfl, b2⟩; rw [HUU.out]; have HB2 : Hid (Below w.heap.size w w2) := Lib.hid (below_ofDrew b2); clear b2)
          | (go_at_call 127; refine ((rnode_any last U.1 _ (by rw [HLL.out]; decide) HUL2.out)).mono ?_; rintro e w3 ⟨rfl, b3⟩; have HB3 : Hid (Below w.heap.size w w3) := Lib.hid (below_then HB2.out b3); clear b3))
        go_ret2
        exact ⟨rfl, HB3.out⟩
end Go.Proofs.YtgjgofjabdjclaaDoor
/- Contracts of merkle.Verify, merkle.See and of the reference's Verify, See. -/
namespace Go.Proofs.YtgjgofjabdjclaaDoor
open Go Go.RowKit Gf Sha

/-- A path proves that a leaf is the i-th of n. -/
def verB (leaf : List UInt8) (i n : Nat) (path : List (List UInt8)) (root : List UInt8) : Bool :=
  decide (root.length = 32) && (sumsB path && ((upR leaf i n path.reverse).2 && decide ((upR leaf i n path.reverse).1 = root)))
theorem sums_mem {m : List (List UInt8)} (h : sumsB m = true) : ∀ x ∈ m.reverse, x.length = 32 := by
  intro x hx
  rw [sumsB, List.all_eq_true] at h
  simpa using h x (List.mem_reverse.1 hx)
theorem TS.rev {w : World} {A : Option Addr} {n c : Nat} {m : List (List UInt8)} (h : TS w A n c m) : TS w A m.reverse.length c m.reverse.reverse := by
  rw [List.length_reverse, List.reverse_reverse, h.1]; exact h
theorem strs2 (a b : List UInt8) (w : World) (g : Nat) (h : g = w.heap.size) : TS (w.alloc (.cells #[.string (strB a), .string (strB b)] 9)) (some ⟨g, 0, none⟩) 2 2 [a, b] := by
  subst h
  exact TS.of_blk (m := [a, b]) (BL.new w 9 _) rfl (by decide)

set_option maxRecDepth 100000 in
set_option maxHeartbeats 2000000 in
theorem verify_any (leaf root : List UInt8) (m : List (List UInt8)) (i n k c : Nat) (A : Option Addr) (w : World) (h : TS w A k c m) (hT : Tabs w) (hl : leaf.length = 32) (hi : i < n) (hn : n ≤ 256) :
    Calls Tryd.prog 84 #[.string (strB leaf), .int .i64 (i : Int), .int .i64 (n : Int), .slice A k c, .string (strB root)] w fun e w' => e = .returned (.bool (verB leaf i n m root)) ∧ Below w.heap.size w w' := by
  have hk : k * 16 ≤ 140737488355328 := by have := h.2.2.1; unfold lim at this; omega
  have H := Lib.hid h
  have HT := Lib.hid hT
  have dl := decide_eq_true hl
  have HLL := Lib.hid hl
  clear h hT hl
  by_cases hr : root.length = 32
  · have dr := decide_eq_true hr
    have HRR := Lib.hid hr
    clear hr
    cases hs : sumsB m with
    | false =>
      have HV : Hid (verB leaf i n m root = false) := Lib.hid (by rw [verB, hs]; simp)
      go_enter Tryd.func84, Tryd.ntmps84
      go_wp2_with (first
        | ((with_reducible show wpList _ _ _ (⟨some 22, _, _, _, _, _⟩ :: _) _ _); go_at_call 88; refine (isSum_any leaf _).mono ?_; rintro e w1 ⟨rfl, rfl⟩; rw [dl])
        | ((with_reducible show wpList _ _ _ (⟨some 27, _, _, _, _, _⟩ :: _) _ _); go_at_call 88; refine (isSum_any root _).mono ?_; rintro e w1 ⟨rfl, rfl⟩; rw [dr])
        | (go_at_call 88; first | (refine (isSum_any leaf _).mono ?_; rintro e w1 ⟨rfl, rfl⟩; rw [dl]) | (refine (isSum_any root _).mono ?_; rintro e w1 ⟨rfl, rfl⟩; rw [dr]))
        | (go_at_call 115; refine (areSums_any A k c m _ H.out).mono ?_; rintro e w1 ⟨rfl, rfl⟩; rw [hs]))
      go_ret
      exact ⟨ret_bool HV.out.symm, Below.refl _ _⟩
    | true =>
      have HSM := Lib.hid (sums_mem hs)
      obtain ⟨⟨u, ok⟩, hU⟩ : ∃ U, U = upR leaf i n m.reverse := ⟨_, rfl⟩
      have HUU := Lib.hid hU.symm
      have HV : Hid (verB leaf i n m root = (ok && decide (u = root))) := Lib.hid (by rw [verB, hs, HRR.out, ← hU]; simp)
      have HRK : Hid (m.reverse.length = k) := Lib.hid (by rw [List.length_reverse, H.out.1])
      have HCL : Hid (∀ w', Below w.heap.size w w' → Calls Tryd.prog 116 #[.string (strB leaf), .int .i64 (i : Int), .int .i64 (n : Int), .slice A k c] w' fun e w'' => e = .returned (.tuple #[.string (strB u), .bool ok]) ∧ Below w'.heap.size w' w'') := Lib.hid (fun w' hb => by
        have := climb_any leaf (by rw [HLL.out]; exact Nat.le_refl _) m.reverse i n A c w' (H.out.rev.kept hb) (HT.out.kept hb) HSM.out hi hn
        rw [HRK.out, HUU.out] at this
        exact this)
      clear hU
      have es := strB_eq u root
      cases ok with
      | false =>
        go_enter Tryd.func84, Tryd.ntmps84
        go_wp2_with (first
          | (go_at_call 88; first | (refine (isSum_any leaf _).mono ?_; rintro e w1 ⟨rfl, rfl⟩; rw [dl]) | (refine (isSum_any root _).mono ?_; rintro e w1 ⟨rfl, rfl⟩; rw [dr]))
          | (go_at_call 115; refine (areSums_any A k c m _ H.out).mono ?_; rintro e w1 ⟨rfl, rfl⟩; rw [hs])
          | (go_at_call 116; refine (HCL.out _ (Below.refl _ _)).mono ?_; rintro e w2 ⟨rfl, b2⟩; have HB2 := Lib.hid b2; clear b2))
        go_ret
        exact ⟨ret_bool (by rw [HV.out]; rfl), HB2.out⟩
      | true =>
        go_enter Tryd.func84, Tryd.ntmps84
        go_wp2_with (first
          | (go_at_call 88; first | (refine (isSum_any leaf _).mono ?_; rintro e w1 ⟨rfl, rfl⟩; rw [dl]) | (refine (isSum_any root _).mono ?_; rintro e w1 ⟨rfl, rfl⟩; rw [dr]))
          | (go_at_call 115; refine (areSums_any A k c m _ H.out).mono ?_; rintro e w1 ⟨rfl, rfl⟩; rw [hs])
          | (go_at_call 116; refine (HCL.out _ (Below.refl _ _)).mono ?_; rintro e w2 ⟨rfl, b2⟩; have HB2 := Lib.hid b2; clear b2))
        go_ret
        exact ⟨ret_bool (by rw [HV.out]; rfl), HB2.out⟩
  · have dr := decide_eq_false hr
    have HV : Hid (verB leaf i n m root = false) := Lib.hid (by rw [verB, dr]; rfl)
    clear hr
    go_enter Tryd.func84, Tryd.ntmps84
    go_wp2_with (first
      | (go_at_call 88; first | (refine (isSum_any leaf _).mono ?_; rintro e w1 ⟨rfl, rfl⟩; rw [dl]) | (refine (isSum_any root _).mono ?_; rintro e w1 ⟨rfl, rfl⟩; rw [dr])))
    go_ret
    exact ⟨ret_bool HV.out.symm, Below.refl _ _⟩

theorem sums2 (a b : List UInt8) (h : a.length = 32) : sumsB [a, b] = decide (b.length = 32) := by simp [sumsB, h]
set_option maxRecDepth 100000 in
set_option maxHeartbeats 2000000 in
theorem rverify_any (leaf root : List UInt8) (m : List (List UInt8)) (i n k c : Nat) (A : Option Addr) (w : World) (h : TS w A k c m) (hT : Tabs w) (hl : leaf.length = 32) (hi : i < n) (hn : n ≤ 256) :
    Calls Tryd.prog 86 #[.string (strB leaf), .int .i64 (i : Int), .int .i64 (n : Int), .slice A k c, .string (strB root)] w fun e w' => e = .returned (.bool (verB leaf i n m root)) ∧ Below w.heap.size w w' := by
  have hk : k * 16 ≤ 140737488355328 := by have := h.2.2.1; unfold lim at this; omega
  have H := Lib.hid h
  have HT := Lib.hid hT
  have HLL := Lib.hid hl
  have H2 : Hid (sumsB [leaf, root] = decide (root.length = 32)) := Lib.hid (sums2 _ _ hl)
  have HB1 : Hid (Below w.heap.size w (w.alloc (.cells #[.string (strB leaf), .string (strB root)] 9))) := Lib.hid ((Below.refl _ _).alloc (Nat.le_refl _) _)
  clear h hT hl
  by_cases hr : root.length = 32
  · have dr := decide_eq_true hr
    have HRR := Lib.hid hr
    clear hr
    cases hs : sumsB m with
    | false =>
      have HV : Hid (verB leaf i n m root = false) := Lib.hid (by rw [verB, hs]; simp)
      go_enter Tryd.func86, Tryd.ntmps86
      go_wp2_with (go_at_call 27; first | ((with_reducible show Calls _ _ #[.slice (some _) 2 2] (World.alloc w _) _); refine (rsums_any _ 2 2 [leaf, root] _ (strs2 leaf root w _ rfl)).mono ?_; rintro e w1 ⟨rfl, rfl⟩; rw [H2.out, dr]) | ((with_reducible show Calls _ _ #[.slice A k c] _ _); refine (rsums_any A k c m _ (H.out.kept HB1.out)).mono ?_; rintro e w1 ⟨rfl, rfl⟩; rw [hs]))
      go_ret
      exact ⟨ret_bool HV.out.symm, HB1.out⟩
    | true =>
      have HSM := Lib.hid (sums_mem hs)
      obtain ⟨⟨u, ok⟩, hU⟩ : ∃ U, U = upR leaf i n m.reverse := ⟨_, rfl⟩
      have HUU := Lib.hid hU.symm
      have HV : Hid (verB leaf i n m root = (ok && decide (u = root))) := Lib.hid (by rw [verB, hs, HRR.out, ← hU]; simp)
      have HRK : Hid (m.reverse.length = k) := Lib.hid (by rw [List.length_reverse, H.out.1])
      have HCL : Hid (∀ w', Below w.heap.size w w' → Calls Tryd.prog 117 #[.string (strB leaf), .int .i64 (i : Int), .int .i64 (n : Int), .slice A k c] w' fun e w'' => e = .returned (.tuple #[.string (strB u), .bool ok]) ∧ Below w'.heap.size w' w'') := Lib.hid (fun w' hb => by
        have := up_any leaf (by rw [HLL.out]; exact Nat.le_refl _) m.reverse i n A c w' (H.out.rev.kept hb) (HT.out.kept hb) HSM.out hi hn
        rw [HRK.out, HUU.out] at this
        exact this)
      clear hU
      have es := strB_eq u root
      cases ok with
      | false =>
        go_enter Tryd.func86, Tryd.ntmps86
        go_wp2_with (first
          | (go_at_call 27; first | ((with_reducible show Calls _ _ #[.slice (some _) 2 2] (World.alloc w _) _); refine (rsums_any _ 2 2 [leaf, root] _ (strs2 leaf root w _ rfl)).mono ?_; rintro e w1 ⟨rfl, rfl⟩; rw [H2.out, dr]) | ((with_reducible show Calls _ _ #[.slice A k c] _ _); refine (rsums_any A k c m _ (H.out.kept HB1.out)).mono ?_; rintro e w1 ⟨rfl, rfl⟩; rw [hs]))
          | (go_at_call 117; refine (HCL.out _ HB1.out).mono ?_; rintro e w2 ⟨rfl, b2⟩; have HB2 := Lib.hid (below_thenB HB1.out HB1.out.size b2); clear b2))
        go_ret
        exact ⟨ret_bool (by rw [HV.out]; rfl), HB2.out⟩
      | true =>
        go_enter Tryd.func86, Tryd.ntmps86
        go_wp2_with (first
          | (go_at_call 27; first | ((with_reducible show Calls _ _ #[.slice (some _) 2 2] (World.alloc w _) _); refine (rsums_any _ 2 2 [leaf, root] _ (strs2 leaf root w _ rfl)).mono ?_; rintro e w1 ⟨rfl, rfl⟩; rw [H2.out, dr]) | ((with_reducible show Calls _ _ #[.slice A k c] _ _); refine (rsums_any A k c m _ (H.out.kept HB1.out)).mono ?_; rintro e w1 ⟨rfl, rfl⟩; rw [hs]))
          | (go_at_call 117; refine (HCL.out _ HB1.out).mono ?_; rintro e w2 ⟨rfl, b2⟩; have HB2 := Lib.hid (below_thenB HB1.out HB1.out.size b2); clear b2))
        go_ret
        exact ⟨ret_bool (by rw [HV.out]; rfl), HB2.out⟩
  · have dr := decide_eq_false hr
    have HV : Hid (verB leaf i n m root = false) := Lib.hid (by rw [verB, dr]; rfl)
    clear hr
    go_enter Tryd.func86, Tryd.ntmps86
    go_wp2_with (go_at_call 27; (with_reducible show Calls _ _ #[.slice (some _) 2 2] (World.alloc w _) _); refine (rsums_any _ 2 2 [leaf, root] _ (strs2 leaf root w _ rfl)).mono ?_; rintro e w1 ⟨rfl, rfl⟩; rw [H2.out, dr])
    go_ret
    exact ⟨ret_bool HV.out.symm, HB1.out⟩

/-- A block of n bytes in blocks of a size. -/
def seeB (root : List UInt8) (n size b : Nat) (x : List UInt8) (path : List (List UInt8)) : Bool :=
  decide (x.length = min size (n - b * size)) && verB (mleaf x) b ((n - 1) / size + 1) path root

theorem len_ne {a b : Nat} (h : ¬ a = b) : ((a : Int) != (b : Int)) = true := by rw [bne_iff_ne]; omega
theorem len_neF {a b : Nat} (h : a = b) : ((a : Int) != (b : Int)) = false := by subst h; simp

set_option maxRecDepth 100000 in
set_option maxHeartbeats 2000000 in
theorem see_any (root x : List UInt8) (m : List (List UInt8)) (n size b k c nx cx : Nat) (A Ax : Option Addr) (w : World) (h : TS w A k c m) (hx : BS w Ax nx cx x) (hT : Tabs w)
    (h1 : 1 ≤ n) (hn : n < 9223372036854775808) (hs : 1 ≤ size) (hs2 : size < 9223372036854775808) (hb : b < (n - 1) / size + 1) (hq : (n - 1) / size + 1 ≤ 256) :
    Calls Tryd.prog 62 #[.string (strB root), .int .i64 (n : Int), .int .i64 (size : Int), .int .i64 (b : Int), .slice Ax nx cx, .slice A k c] w fun e w' => e = .returned (.bool (seeB root n size b x m)) ∧ Below w.heap.size w w' := by
  have hk : k * 16 ≤ 140737488355328 := by have := h.2.2.1; unfold lim at this; omega
  have hnx := hx.len_le
  have H := Lib.hid h
  have HX := Lib.hid hx
  have HT := Lib.hid hT
  have HBS : Hid (b * size < n) := Lib.hid (by
    have h3 : b * size ≤ ((n - 1) / size) * size := Nat.mul_le_mul_right _ (by omega)
    have h4 := Nat.div_mul_le_self (n - 1) size
    omega)
  obtain ⟨q, hqd⟩ : ∃ q, q = (n - 1) / size + 1 := ⟨_, rfl⟩
  obtain ⟨ex, hex⟩ : ∃ ex, ex = min size (n - b * size) := ⟨_, rfl⟩
  have HV : Hid (seeB root n size b x m = (decide (nx = ex) && verB (mleaf x) b q m root)) := Lib.hid (by rw [seeB, ← hqd, ← hex, hx.1])
  rw [← hqd] at hb hq
  have HQ := Lib.hid hqd.symm
  have HE := Lib.hid hex.symm
  have HML := Lib.hid (mleaf_length x)
  clear hqd hex h hx hT
  by_cases hc : nx = ex
  · have HC := Lib.hid hc
    have e1 := len_neF hc
    clear hc
    go_enter Tryd.func62, Tryd.ntmps62
    go_wp2_with (first
      | (go_at_call 82; refine (count_any n size _ h1 hn hs hs2).mono ?_; rintro e w1 ⟨rfl, rfl⟩; rw [HQ.out])
      | (go_at_call 83; refine (extent_any n size b _ h1 hn hs hs2 (by omega) HBS.out).mono ?_; rintro e w1 ⟨rfl, rfl⟩; rw [HE.out])
      | (go_at_call 85; refine (leaf_any Ax nx cx x _ HX.out HT.out).mono ?_; rintro e w2 ⟨rfl, b2⟩; have HB2 := Lib.hid b2; clear b2)
      | (go_at_call 84; refine (verify_any (mleaf x) root m b q k c A _ (H.out.kept HB2.out) (HT.out.kept HB2.out) HML.out hb hq).mono ?_; rintro e w3 ⟨rfl, b3⟩; have HB3 := Lib.hid (below_then HB2.out b3); clear b3))
    go_ret
    exact ⟨ret_bool (by rw [HV.out, decide_eq_true HC.out]; rfl), HB3.out⟩
  · have HC := Lib.hid hc
    have e1 := len_ne hc
    clear hc
    go_enter Tryd.func62, Tryd.ntmps62
    go_wp2_with (first
      | (go_at_call 82; refine (count_any n size _ h1 hn hs hs2).mono ?_; rintro e w1 ⟨rfl, rfl⟩; rw [HQ.out])
      | (go_at_call 83; refine (extent_any n size b _ h1 hn hs hs2 (by omega) HBS.out).mono ?_; rintro e w1 ⟨rfl, rfl⟩; rw [HE.out]))
    go_ret
    exact ⟨ret_bool (by rw [HV.out, decide_eq_false HC.out]; rfl), Below.refl _ _⟩
end Go.Proofs.YtgjgofjabdjclaaDoor
