/- Several texts in one: Fg0, Mer0. -/
import Derived.Test.YtfcakjpljjnjnaaGreatDoorC13
import Derived.Test.YtfcakjpljjnjnaaGreatDoorC8
import Derived.Test.YtfcakjpljjnjnaaGreatDoorC7
/- Contracts of ref03.Join for one string, of the law's collides and pad. -/
namespace Go.Proofs.YtfcakjpljjnjnaaGreatDoor
open Go Go.RowKit Gf Sha

theorem strB_app (a b : List UInt8) : strB a ++ strB b = strB (a ++ b) := by
 rw [ByteArray.ext_iff]
 simp [strB, ByteArray.data_append]
theorem strB_nil : ({ data := #[] } : ByteArray) = strB [] := rfl
/-- The test ahead of a concatenation. -/
theorem cat_ok (a b : List UInt8) (h : a.length + b.length ≤ 9223372036854775807) : ¬ 9223372036854775807 < (strB a).size + (strB b).size := by
 rw [strB_size, strB_size]
 omega
attribute [local go_sem] strB_app

attribute [local go_sem] Gf.xor_bits
end Go.Proofs.YtfcakjpljjnjnaaGreatDoor
/- Contracts of merkle.Leaf, merkle.Node, of the reference's, of ref03.Join for any strings, and the plain tree of sums. -/
namespace Go.Proofs.YtfcakjpljjnjnaaGreatDoor
open Go Go.RowKit Gf Sha

/-- The leaf of bytes. -/
def mleaf (x : List UInt8) : List UInt8 := sha (0 :: x)
/-- The node of two sums. -/
def mnode (l r : List UInt8) : List UInt8 := sha ([1] ++ (l ++ r))

set_option maxRecDepth 100000 in
set_option maxHeartbeats 1000000 in
theorem leaf_any (A : Option Addr) (n c : Nat) (x : List UInt8) (w : World) (h : BS w A n c x) (hT : Tabs w) :
  Calls Tryz.prog 134 #[.slice A n c] w fun e w' => e = .returned (.string (strB (mleaf x))) ∧ Below w.heap.size w w' := by
 have hn := h.len_le
 have H := Lib.hid h
 have HT := Lib.hid hT
 have HS := Lib.hid hT.size
 have HN1 : Hid (([] : List UInt8).length + 1 ≤ 1152921504606846976) := Lib.hid (by simp)
 have HN2 : Hid (([0] : List UInt8).length + n ≤ 1152921504606846976) := Lib.hid (by simp; omega)
 have HN3 : Hid ((0 :: x : List UInt8).length ≤ 1125899906842624) := Lib.hid (by rw [List.length_cons, H.out.1]; omega)
 have HF : Hid (FarB A n (· = w.heap.size)) := Lib.hid (H.out.far_new (fun k e => by omega))
 clear h hT
 go_enter Tryz.func134, Tryz.ntmps134
 go_wp2_with (first
  | (go_at_call 101; refine (new_any w HT.out).mono ?_; rintro e w1 ⟨rfl, b1, b2⟩; have HB1 := Lib.hid b1; have HB2 := Lib.hid b2; clear b1 b2)
  | (go_at_call 102; (with_reducible show Calls _ _ _ (World.alloc w1 _) _); refine (write_any w.heap.size 1 1 _ 155 [] [0] [] _ (HB1.out.kept ((Below.refl _ _).alloc (Nat.le_refl _) _)) (BL.bs (l := [0]) (BL.new w1 5 ([0].map B)) rfl (by decide)) ((HT.out.kept HB2.out).kept ((Below.refl _ _).alloc (Nat.le_refl _) _)) HS.out (fun g' o' _ e e2 => by cases e; have e2 : w1.heap.size = w.heap.size := e2; have := HB1.out.lt; omega) HN1.out).mono ?_; rintro e w2 ⟨rfl, r1, r2⟩; rw [List.nil_append] at r1; have HR1 := Lib.hid r1; have HR2 : Hid (Kp (· = w.heap.size) w1 w2) := Lib.hid (((Kp.refl _ _).alloc _).trans r2); clear r1 r2)
  | (go_at_call 102; refine (write_any w.heap.size n c A 155 [0] x [] w2 HR1.out ((H.out.kept HB2.out).kpf HR2.out HF.out) ((HT.out.kept HB2.out).kp HR2.out (by rintro k rfl; exact HS.out)) HS.out HF.out HN2.out).mono ?_; rintro e w3 ⟨rfl, r1, r2⟩; have HR3 : Hid (Hs w3 w.heap.size 155 [] (0 :: x)) := Lib.hid r1; have HR4 : Hid (Kp (· = w.heap.size) w1 w3) := Lib.hid (HR2.out.trans r2); clear r1 r2)
  | (go_at_call 103; refine (sum_any w.heap.size 155 (0 :: x) [] w3 HR3.out ((HT.out.kept HB2.out).kp HR4.out (by rintro k rfl; exact HS.out)) HN3.out).mono ?_; rintro e w4 ⟨rfl, r1⟩))
 go_ret
 have k1 : Below w.heap.size w w3 := ((Kp.of_below (S := fun _ => False) HB2.out).after HR4.out (fun i hi e => by omega)).below (Nat.le_refl _) (fun _ h => h.elim)
 exact ⟨rfl, below_thenB k1 k1.size r1⟩

theorem strs3 (a b c : List UInt8) (w : World) (g : Nat) (h : g = w.heap.size) : TS (w.alloc (.cells #[.string (strB a), .string (strB b), .string (strB c)] 9)) (some ⟨g, 0, none⟩) 3 3 [a, b, c] := by
 subst h
 exact TS.of_blk (m := [a, b, c]) (BL.new w 9 _) rfl (by decide)
theorem flat3 (a b c : List UInt8) : [a, b, c].flatten = a ++ (b ++ c) := by simp
theorem lens3 (a b c : List UInt8) (ha : a.length ≤ lim) (hb : b.length ≤ lim) (hc : c.length ≤ lim) (k : Nat) (hk : k < 3) : (gR [a, b, c] k).length ≤ lim := by
 match k, hk with
 | 0, _ => exact ha
 | 1, _ => exact hb
 | 2, _ => exact hc
theorem one_str : ({ data := #[1] } : ByteArray) = strB [1] := rfl

set_option maxRecDepth 100000 in
set_option maxHeartbeats 1000000 in
theorem node_any (l r : List UInt8) (w : World) (hT : Tabs w) (hl : l.length ≤ 1048576) (hr : r.length ≤ 1048576) :
  Calls Tryz.prog 98 #[.string (strB l), .string (strB r)] w fun e w' => e = .returned (.string (strB (mnode l r))) ∧ Below w.heap.size w w' := by
 have HT := Lib.hid hT
 have HL : Hid ([[1], l, r].flatten.length ≤ 1125899906842624) := Lib.hid (by rw [flat3]; simp; omega)
 have HK : Hid (∀ k, k < 3 → (gR [[1], l, r] k).length ≤ lim) := Lib.hid (lens3 _ _ _ (by decide) (by unfold lim; omega) (by unfold lim; omega))
 clear hT hl hr
 go_enter Tryz.func98, Tryz.ntmps98
 rw [one_str]
 go_wp2_with (go_at_call 99; (with_reducible show Calls _ _ _ (World.alloc w _) _); refine (join_any _ 3 3 [[1], l, r] _ (strs3 [1] l r w _ rfl) (HT.out.kept ((Below.refl _ _).alloc (Nat.le_refl _) _)) HL.out HK.out).mono ?_; rintro e w1 ⟨rfl, b1⟩)
 go_ret
 exact ⟨rfl, (((Below.refl _ _).alloc (Nat.le_refl _) _).trans (b1.mono (by simp)))⟩

set_option maxRecDepth 100000 in
set_option maxHeartbeats 1000000 in
theorem rjoin_any (A : Option Addr) (n c : Nat) (m : List (List UInt8)) (w : World) (h : TS w A n c m) (hN : m.flatten.length ≤ 1048576) :
  Calls Tryz.prog 147 #[.slice A n c] w fun e w' => e = .returned (.string (strB (sha m.flatten))) ∧ Below w.heap.size w w' := by
 have hn : n * 16 ≤ 140737488355328 := by have := h.2.2.1; unfold lim at this; omega
 have H := Lib.hid h
 have HN := Lib.hid hN
 clear h hN
 go_enter Tryz.func147, Tryz.ntmps147
 rw [strB_nil]
 go_wp2_with fail
 go_loopw [3, 8] (fun v iv wr => wr = w ∧ ∃ k : Nat, k ≤ n ∧ v = .string (strB (m.take k).flatten) ∧ iv = .int .i64 (k : Int)) (fun _ iv _ => n - (intOf iv).toNat)
 case atStart => exact ⟨rfl, 0, by omega, by simp, rfl⟩
 case round =>
  obtain ⟨rfl, k, hk, rfl, rfl⟩ := hrel
  by_cases hlt : k < n
  ·
   obtain ⟨g, o, rfl, q1⟩ := H.out.at_ (Below.refl _ _) hlt
   have e1 := flat_take (m := m) (k := k) (by rw [H.out.1]; exact hlt)
   have ck := cat_ok (m.take k).flatten (gR m k) (by
    have h1 := flat_le m (k + 1)
    rw [e1, List.length_append] at h1
    have := HN.out
    omega)
   have e2 : strB (m.take k).flatten ++ strB (gR m k) = strB (m.take (k + 1)).flatten := by rw [strB_app, e1]
   clear e1
   go_wp2_with fail
   go_roundw
   case rel => exact ⟨trivial, k + 1, by omega, rfl, by go_num⟩
   case measure => simp [intOf]; omega
  ·
   obtain rfl : k = n := by omega
   have e1 : (m.take k).flatten = m.flatten := by rw [List.take_of_length_le (by rw [H.out.1]; exact Nat.le_refl _)]
   obtain ⟨T, hT⟩ : ∃ T, T = m.flatten := ⟨_, rfl⟩
   have HNT : Hid (T.length ≤ 1048576) := Lib.hid (by rw [hT]; exact HN.out)
   rw [e1, ← hT]
   have HTT := Lib.hid hT
   clear e1 hT
   go_wp2_with (first
    | ((with_reducible show OpW 17); refine wpList_convB _ rfl (.tmp 16) rfl T rfl ?_; intro w1 cap hc; have HC1 := Lib.hid hc; clear hc)
    | (go_at_call 88; refine (rsum_any _ T.length _ T w1 (HC1.out.bs (by have := HNT.out; unfold lim; omega)) HNT.out).mono ?_; rintro e w2 ⟨rfl, b2⟩))
   rw [← HTT.out]
   go_ret
   exact ⟨rfl, below_then HC1.out.2.2.1 b2⟩

set_option maxRecDepth 100000 in
set_option maxHeartbeats 1000000 in
theorem rnode_any (l r : List UInt8) (w : World) (hl : l.length ≤ 1000) (hr : r.length ≤ 1000) :
  Calls Tryz.prog 127 #[.string (strB l), .string (strB r)] w fun e w' => e = .returned (.string (strB (mnode l r))) ∧ Below w.heap.size w w' := by
 have HL : Hid ([[1], l, r].flatten.length ≤ 1048576) := Lib.hid (by rw [flat3]; simp; omega)
 clear hl hr
 go_enter Tryz.func127, Tryz.ntmps127
 rw [one_str]
 go_wp2_with (go_at_call 147; (with_reducible show Calls _ _ _ (World.alloc w _) _); refine (rjoin_any _ 3 3 [[1], l, r] _ (strs3 [1] l r w _ rfl) HL.out).mono ?_; rintro e w1 ⟨rfl, b1⟩)
 go_ret
 exact ⟨rfl, (((Below.refl _ _).alloc (Nat.le_refl _) _).trans (b1.mono (by simp)))⟩

set_option maxRecDepth 100000 in
set_option maxHeartbeats 1000000 in
theorem rleaf_any (A : Option Addr) (n c : Nat) (x : List UInt8) (w : World) (h : BS w A n c x) (hN : n ≤ 1000000) :
  Calls Tryz.prog 158 #[.slice A n c] w fun e w' => e = .returned (.string (strB (mleaf x))) ∧ Below w.heap.size w w' := by
 have H := Lib.hid h
 have HN := Lib.hid hN
 have HO : Hid ((w.alloc (.cells #[B 0] 5)).ownsRow w.heap.size 5 1 (.slice (some ⟨w.heap.size, 0, none⟩) 1 1) 1 (([0] : List UInt8).map B)) := Lib.hid (BL.own (BL.new w 5 ([0].map B)) (Nat.le_refl _) rfl (by decide))
 have HB : Hid (Below w.heap.size w (w.alloc (.cells #[B 0] 5))) := Lib.hid ((Below.refl _ _).alloc (Nat.le_refl _) _)
 clear h hN
 go_enter Tryz.func158, Tryz.ntmps158
 go_wp2_with (first
  | ((with_reducible show OpW 5); refine wpList_appB _ rfl (.tmp 3) (.tmp 4) rfl w.heap.size _ 1 _ rfl HO.out A n c x rfl (H.out.kept HB.out) (by have := HN.out; omega) HB.out.size ?_; intro v6 w6 hp; have HO6 : Hid (w6.ownsRow w.heap.size 5 1 v6 (1 + n) ((0 :: x).map B)) := Lib.hid hp.own; have HB6 := Lib.hid (hp.below HO.out HB.out (Nat.le_refl _) HB.out.size); obtain ⟨A6, c6, rfl, hb6⟩ := BS.of_own HO6.out (by have := HN.out; unfold lim; omega); clear hp)
  | (go_at_call 88; refine (rsum_any A6 (1 + n) c6 _ w6 hb6 (by have := HN.out; omega)).mono ?_; rintro e w2 ⟨rfl, b2⟩))
 go_ret
 exact ⟨rfl, below_thenB HB6.out HB6.out.size b2⟩
end Go.Proofs.YtfcakjpljjnjnaaGreatDoor
