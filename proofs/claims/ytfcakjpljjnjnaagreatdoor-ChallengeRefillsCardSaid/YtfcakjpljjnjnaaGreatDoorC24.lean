/- Several texts in one: Cd, Ce, Cf, Cg, Ch, Ci, Cj, Ck, Cl, Cm, Cn. -/
import Derived.Test.YtfcakjpljjnjnaaGreatDoorC23
import Derived.Laws.StructEq
import Derived.Test.YtfcakjpljjnjnaaGreatDoorC9
import Derived.Test.YtfcakjpljjnjnaaGreatDoorC18
/- The reference's Wanted, bytes, IsUnneeded, IsSparse, Uncovered. -/
namespace Go.Proofs.YtfcakjpljjnjnaaGreatDoor
open Go Go.RowKit Gf Sha

end Go.Proofs.YtfcakjpljjnjnaaGreatDoor
/- The reference's bytes, IsUnneeded, IsSparse, Uncovered. -/
namespace Go.Proofs.YtfcakjpljjnjnaaGreatDoor
open Go Go.RowKit Gf Sha

/-- The sizes of refs are those of chunks. -/
def szOk (l : List Rf) : Prop := l.length ≤ 1000 ∧ ∀ r ∈ l, 0 ≤ r.2.2 ∧ r.2.2 ≤ 32768
theorem szOk.filter {l : List Rf} (h : szOk l) (p : Rf → Bool) : szOk (l.filter p) := ⟨Nat.le_trans (List.length_filter_le _ _) h.1, fun r hr => h.2 r (List.mem_filter.1 hr).1⟩

end Go.Proofs.YtfcakjpljjnjnaaGreatDoor
/- Ascending sums, of the program and of the reference; the reference's Uncovered. -/
namespace Go.Proofs.YtfcakjpljjnjnaaGreatDoor
open Go Go.RowKit Gf Sha

end Go.Proofs.YtfcakjpljjnjnaaGreatDoor
/- The reference's Uncovered. -/
namespace Go.Proofs.YtfcakjpljjnjnaaGreatDoor
open Go Go.RowKit Gf Sha

end Go.Proofs.YtfcakjpljjnjnaaGreatDoor
/- The reference's Find and IsHeld. -/
namespace Go.Proofs.YtfcakjpljjnjnaaGreatDoor
open Go Go.RowKit Gf Sha

end Go.Proofs.YtfcakjpljjnjnaaGreatDoor
/- Pieces and refs compared; the reference's IsHeld. -/
namespace Go.Proofs.YtfcakjpljjnjnaaGreatDoor
open Go Go.RowKit Gf Sha

end Go.Proofs.YtfcakjpljjnjnaaGreatDoor
/- The reference's Ref (a valid ref). -/
namespace Go.Proofs.YtfcakjpljjnjnaaGreatDoor
open Go Go.RowKit Gf Sha

/-- A valid ref. -/
def rfB (r : Rf) : Bool := decide (r.1.length = 32) && (decide (0 ≤ r.2.1) && (decide (0 ≤ r.2.2) && decide (r.2.2 ≤ 32768)))
set_option maxHeartbeats 1000000 in
theorem rref_any (r : Rf) (w : World) :
  Calls Tryz.prog 78 #[.agg (rfL r).toArray] w fun e w' => e = .returned (.bool (rfB r)) ∧ Below w.heap.size w w' := by
 by_cases h1 : r.1.length = 32
 ·
  have e1 : (((strB r.1).size : Int) == 32) = true := by rw [strB_size, h1]; rfl
  by_cases h2 : 0 ≤ r.2.1
  ·
   have e2 : decide (0 ≤ r.2.1) = true := decide_eq_true h2
   by_cases h3 : 0 ≤ r.2.2
   ·
    have e3 : decide (0 ≤ r.2.2) = true := decide_eq_true h3
    have HR : Hid (rfB r = decide (r.2.2 ≤ 32768)) := Lib.hid (by rw [rfB, decide_eq_true h1, e2, e3]; rfl)
    clear h1 h2 h3
    go_enter Tryz.func78, Tryz.ntmps78
    go_wp2_with (first
     | ((with_reducible show OpW 1); refine wpList_box _ rfl 44 (.tmp 0) rfl (rfL r) rfl ?_; intro w1 a1 a2 a3; have HB1 := Lib.hid a2; have q0 := a1.get (j := 0) rfl; have q1 := a1.get (j := 1) rfl; have q2 := a1.get (j := 2) rfl; clear a1 a2 a3)
     | fail)
    go_ret
    exact ⟨ret_bool HR.out.symm, HB1.out⟩
   ·
    have e3 : decide (0 ≤ r.2.2) = false := decide_eq_false h3
    have HR : Hid (rfB r = false) := Lib.hid (by rw [rfB, decide_eq_true h1, e2, e3]; rfl)
    clear h1 h2 h3
    go_enter Tryz.func78, Tryz.ntmps78
    go_wp2_with (first
     | ((with_reducible show OpW 1); refine wpList_box _ rfl 44 (.tmp 0) rfl (rfL r) rfl ?_; intro w1 a1 a2 a3; have HB1 := Lib.hid a2; have q0 := a1.get (j := 0) rfl; have q1 := a1.get (j := 1) rfl; have q2 := a1.get (j := 2) rfl; clear a1 a2 a3)
     | fail)
    go_ret
    exact ⟨ret_bool HR.out.symm, HB1.out⟩
  ·
   have e2 : decide (0 ≤ r.2.1) = false := decide_eq_false h2
   have HR : Hid (rfB r = false) := Lib.hid (by rw [rfB, decide_eq_true h1, e2]; rfl)
   clear h1 h2
   go_enter Tryz.func78, Tryz.ntmps78
   go_wp2_with (first
    | ((with_reducible show OpW 1); refine wpList_box _ rfl 44 (.tmp 0) rfl (rfL r) rfl ?_; intro w1 a1 a2 a3; have HB1 := Lib.hid a2; have q0 := a1.get (j := 0) rfl; have q1 := a1.get (j := 1) rfl; have q2 := a1.get (j := 2) rfl; clear a1 a2 a3)
    | fail)
   go_ret
   exact ⟨ret_bool HR.out.symm, HB1.out⟩
 ·
  have e1 : (((strB r.1).size : Int) == 32) = false := by rw [strB_size, beq_eq_false_iff_ne]; omega
  have HR : Hid (rfB r = false) := Lib.hid (by rw [rfB, decide_eq_false h1]; rfl)
  clear h1
  go_enter Tryz.func78, Tryz.ntmps78
  go_wp2_with (first
   | ((with_reducible show OpW 1); refine wpList_box _ rfl 44 (.tmp 0) rfl (rfL r) rfl ?_; intro w1 a1 a2 a3; have HB1 := Lib.hid a2; have q0 := a1.get (j := 0) rfl; have q1 := a1.get (j := 1) rfl; have q2 := a1.get (j := 2) rfl; clear a1 a2 a3)
   | fail)
  go_ret
  exact ⟨ret_bool HR.out.symm, HB1.out⟩
end Go.Proofs.YtfcakjpljjnjnaaGreatDoor
/- The reference's Refs: valid, of different names. -/
namespace Go.Proofs.YtfcakjpljjnjnaaGreatDoor
open Go Go.RowKit Gf Sha
section
variable {α β : Type} [BEq β] {p : α → Bool} {f : α → β} {l : List α} {k j : Nat} {x y : α}
def okAt (p : α → Bool) (f : α → β) (l : List α) (k : Nat) : Bool := match l[k]? with
 | none => false
 | some x => p x && !(l.take k).any fun y => f y == f x
/-- Every element is right, and its name is none of those before. -/
def okB (p : α → Bool) (f : α → β) (l : List α) : Bool := (List.range l.length).all (okAt p f l)
theorem ok_lt (h : l[k]? = some x) : k < l.length := (List.getElem?_eq_some_iff.1 h).1
theorem ok_bad (h : l[k]? = some x) (h1 : p x = false) : okB p f l = false := List.all_eq_false.2 ⟨k, List.mem_range.2 (ok_lt h), by simp [okAt, h, h1]⟩
theorem ok_twice [LawfulBEq β] (h : l[k]? = some x) (hj : l[j]? = some y) (hjk : j < k) (e : f y = f x) : okB p f l = false := List.all_eq_false.2 ⟨k, List.mem_range.2 (ok_lt h), by
 have : ((l.take k).any fun y => f y == f x) = true := any_hit (k := j) (x := y) (by rw [List.getElem?_take_of_lt hjk]; exact hj) (by simpa using e)
 simp [okAt, h, this]⟩
theorem ok_hit (h : l[k]? = some x) (h1 : p x = true) (h2 : ((l.take k).any fun y => f y == f x) = false) : okAt p f l k = true := by simp only [okAt, h, h1, h2]; rfl
theorem ok_all (h : ∀ k, k < l.length → okAt p f l k = true) : okB p f l = true := List.all_eq_true.2 fun k hk => h k (List.mem_range.1 hk)
end

abbrev rfN (r : Rf) : List UInt8 := r.1
set_option maxRecDepth 100000 in
set_option maxHeartbeats 2000000 in
theorem rrefs_any (A : Option Addr) (n c : Nat) (l : List Rf) (w : World) (hl : LS rRf 3 32 w A n c l) :
  Calls Tryz.prog 48 #[.slice A n c] w fun e w' => e = .returned (.bool (okB rfB rfN l)) ∧ Below w.heap.size w w' := by
 have hn := hl.len_le
 have H := Lib.hid hl
 have HL := Lib.hid hl.1
 clear hl
 go_enter Tryz.func48, Tryz.ntmps48
 go_wp2_with fail
 go_loopw [8] (fun iv wr => ∃ k : Nat, k ≤ n ∧ iv = .int .i64 (k : Int) ∧ Hid (∀ j, j < k → okAt rfB rfN l j = true) ∧ Hid (Below w.heap.size w wr)) (fun iv _ => n - (intOf iv).toNat)
 case atStart => exact ⟨0, by omega, rfl, Lib.hid (fun j hj => absurd hj (by omega)), Lib.hid (Below.refl _ _)⟩
 case round =>
  obtain ⟨k, hk, rfl, hall, hb⟩ := hrel
  obtain ⟨wx, hwx⟩ : ∃ x, x = wr := ⟨_, rfl⟩
  rw [← hwx] at hb ⊢
  clear hwx
  by_cases hlt : k < n
  ·
   obtain ⟨x, g, o, cs, hs, rfl, hat, hr⟩ := H.out.at_ stay_rf (Below.refl _ _) hlt
   have HR := Lib.hid hr
   obtain ⟨rfl, _⟩ := hr
   have HX := Lib.hid hs
   have HA := Lib.hid (hat.kept hb.out)
   clear hs hat
   cases h1 : rfB x with
   | false =>
    have HF : Hid (okB rfB rfN l = false) := Lib.hid (ok_bad HX.out h1)
    go_wp2_with (first
     | ((with_reducible show OpW 12); refine wpList_loadv _ rfl 44 (.tmp 11) rfl 3 (by kernel_rfl) g (o + k * 3) (rfL x) (by go_simp) HA.out rfl ?_)
     | ((with_reducible show OpW 4); refine wpList_alloc _ rfl 44 rfl rfZ rfZero ?_; intro w3 a1 a2 a3; have HV3 := Lib.hid a1; have HX3 := Lib.hid a2; clear a1 a2 a3)
     | ((with_reducible show OpN); refine wpList_storev _ rfl 44 (.tmp 4) (.tmp 12) rfl 3 (by kernel_rfl) wx.heap.size 0 _ rfZ (rfL x) rfl rfl HV3.out rfl (one_rf x) (by decide) ?_; intro w4 a1 a2 a3; have HV4 : Hid (BL w4 wx.heap.size 44 (rfL x)) := Lib.hid a1; have HX4 : Hid (Below wx.heap.size wx w4) := Lib.hid (((Kp.of_below (S := fun _ => False) HX3.out).after a2 (fun i hi e => by omega)).below (Nat.le_refl _) (fun _ h => h.elim)); clear a1 a2 a3)
     | ((with_reducible show OpW 13); refine wpList_loadv _ rfl 44 (.tmp 4) rfl 3 (by kernel_rfl) wx.heap.size 0 (rfL x) rfl (BL.all HV4.out) rfl ?_)
     | (go_at_call 78; refine (rref_any x _).mono ?_; rintro e w5 ⟨rfl, b5⟩; rw [h1]; have HX5 := Lib.hid (below_then HX4.out b5); clear b5))
    go_ret
    exact ⟨ret_bool HF.out.symm, below_thenB hb.out hb.out.size HX5.out⟩
   | true =>
    go_wp2_with (first
     | ((with_reducible show OpW 12); refine wpList_loadv _ rfl 44 (.tmp 11) rfl 3 (by kernel_rfl) g (o + k * 3) (rfL x) (by go_simp) HA.out rfl ?_)
     | ((with_reducible show OpW 4); refine wpList_alloc _ rfl 44 rfl rfZ rfZero ?_; intro w3 a1 a2 a3; have HV3 := Lib.hid a1; have HX3 := Lib.hid a2; clear a1 a2 a3)
     | ((with_reducible show OpN); refine wpList_storev _ rfl 44 (.tmp 4) (.tmp 12) rfl 3 (by kernel_rfl) wx.heap.size 0 _ rfZ (rfL x) rfl rfl HV3.out rfl (one_rf x) (by decide) ?_; intro w4 a1 a2 a3; have HV4 : Hid (BL w4 wx.heap.size 44 (rfL x)) := Lib.hid a1; have HX4 : Hid (Below wx.heap.size wx w4) := Lib.hid (((Kp.of_below (S := fun _ => False) HX3.out).after a2 (fun i hi e => by omega)).below (Nat.le_refl _) (fun _ h => h.elim)); clear a1 a2 a3)
     | ((with_reducible show OpW 13); refine wpList_loadv _ rfl 44 (.tmp 4) rfl 3 (by kernel_rfl) wx.heap.size 0 (rfL x) rfl (BL.all HV4.out) rfl ?_)
     | (go_at_call 78; refine (rref_any x _).mono ?_; rintro e w5 ⟨rfl, b5⟩; rw [h1]; have HX5 := Lib.hid (below_then HX4.out b5); have HV5 := Lib.hid (HV4.out.kept b5); clear b5))
    have HB5 := Lib.hid (below_thenB hb.out hb.out.size HX5.out)
    go_loopw [5] (fun iv wr => ∃ j : Nat, j ≤ k ∧ iv = .int .i64 (j : Int) ∧ Hid (((l.take j).any fun y => rfN y == rfN x) = false) ∧ Hid (Below w5.heap.size w5 wr)) (fun iv _ => k - (intOf iv).toNat)
    case atStart => exact ⟨0, by omega, rfl, Lib.hid rfl, Lib.hid (Below.refl _ _)⟩
    case round =>
     obtain ⟨j, hj, rfl, hne, hb'⟩ := hrel
     have r0 : wr.cell? ⟨wx.heap.size, 0, none⟩ = some (.string (strB (rfN x))) := (HV5.out.kept hb'.out).get (j := 0) rfl
     have HB6 := Lib.hid (below_thenB HB5.out HB5.out.size hb'.out)
     by_cases hjk : j < k
     ·
      have hjn : j < n := by omega
      obtain ⟨y, g', o', cs', hs', e', hat', hr'⟩ := H.out.at_ stay_rf (Below.refl _ _) (show j < n by omega)
      cases e'
      obtain ⟨rfl, _⟩ := hr'
      have HY := Lib.hid hs'
      have q0 : wr.cell? ⟨g, o + j * 3, none⟩ = some (.string (strB (rfN y))) := (hat'.kept HB6.out) 0 _ rfl
      clear hs' hat'
      by_cases he : rfN y = rfN x
      ·
       have es : ((strB (rfN y)).toList == (strB (rfN x)).toList) = true := by rw [strB_eq]; exact decide_eq_true he
       have HF : Hid (okB rfB rfN l = false) := Lib.hid (ok_twice HX.out HY.out hjk he)
       clear he
       go_wp2_with fail
       refine Text.wp_region_text (fun _ => True) [(0, 4), (1, 4), (2, 4), (3, 4), (5, 4), (4, 1), (6, 1), (7, 4)] (by kernel_rfl) (by kernel_rfl) (fun _ _ _ _ _ h => h) (trivial) ?_
       iterate 5 (refine Text.purek rfl rfl (fun K hK => ⟨_, fun w' => by go_simp <;> rfl, ?_⟩); go_simp; refine hK _ ?_; clear hK K)
       iterate 2 (refine Text.readk rfl rfl (fun K hK => ⟨_, by go_simp <;> rfl, ?_⟩); go_simp; refine hK _ ?_; clear hK K)
       (refine Text.purek rfl rfl (fun K hK => ⟨_, fun w' => by go_simp <;> rfl, ?_⟩); go_simp; refine hK _ ?_; clear hK K)
       refine Text.done ?_
       go_wp2_with fail
       go_ret
       exact ⟨ret_bool HF.out.symm, HB6.out.drew⟩
      ·
       have es : ((strB (rfN y)).toList == (strB (rfN x)).toList) = false := by rw [strB_eq]; exact decide_eq_false he
       have HF : Hid (((l.take (j + 1)).any fun y => rfN y == rfN x) = false) := Lib.hid (any_step HY.out hne.out (by simpa using he))
       clear he
       go_wp2_with fail
       refine Text.wp_region_text (fun _ => True) [(0, 4), (1, 4), (2, 4), (3, 4), (5, 4), (4, 1), (6, 1), (7, 4)] (by kernel_rfl) (by kernel_rfl) (fun _ _ _ _ _ h => h) (trivial) ?_
       iterate 5 (refine Text.purek rfl rfl (fun K hK => ⟨_, fun w' => by go_simp <;> rfl, ?_⟩); go_simp; refine hK _ ?_; clear hK K)
       iterate 2 (refine Text.readk rfl rfl (fun K hK => ⟨_, by go_simp <;> rfl, ?_⟩); go_simp; refine hK _ ?_; clear hK K)
       (refine Text.purek rfl rfl (fun K hK => ⟨_, fun w' => by go_simp <;> rfl, ?_⟩); go_simp; refine hK _ ?_; clear hK K)
       refine Text.done ?_
       go_wp2_with fail
       go_roundw
       case rel => exact ⟨j + 1, by omega, by go_num, HF, Lib.hid hb'.out.drew⟩
       case measure => simp [intOf]; omega
     ·
      obtain rfl : j = k := by omega
      have HF : Hid (∀ i, i < j + 1 → okAt rfB rfN l i = true) := Lib.hid (fun i hi => by
       rcases Nat.lt_succ_iff_lt_or_eq.1 hi with h | rfl
       ·
        exact hall.out i h
       ·
        exact ok_hit HX.out h1 hne.out)
      go_wp2_with fail
      go_roundw
      case rel => exact ⟨j + 1, by omega, by go_num, HF, HB6⟩
      case measure => simp [intOf]; omega
  ·
   obtain rfl : k = n := by omega
   have HF : Hid (okB rfB rfN l = true) := Lib.hid (ok_all (by rw [HL.out]; exact hall.out))
   go_wp2_with fail
   go_ret
   exact ⟨ret_bool HF.out.symm, hb.out⟩
end Go.Proofs.YtfcakjpljjnjnaaGreatDoor
/- ref11.Need, ref08.Valid. -/
namespace Go.Proofs.YtfcakjpljjnjnaaGreatDoor
open Go Go.RowKit Gf Sha

/-- The length without padding. -/
def needN (n : Nat) : Nat := (uv n).length + n + 16
set_option maxHeartbeats 1000000 in
theorem rneed_any (n : Nat) (w : World) (hn : n ≤ 65536) :
  Calls Tryz.prog 80 #[.int .i64 (n : Int)] w fun e w' => e = .returned (.int .i64 (needN n : Int)) ∧ Below w.heap.size w w' := by
 have HU := Lib.hid (uv_length n)
 have HC := Lib.hid (rnum_any n w (by omega))
 have h0 : IntKind.u64.wrap (n : Int) = (n : Int) := wrap_u64 n (by omega)
 go_enter Tryz.func80, Tryz.ntmps80
 go_wp2_with (first
  | (go_at_call 87; refine HC.out.mono ?_; rintro e w1 ⟨⟨g, m, c, rfl, hm, _⟩, b1⟩; have HM := Lib.hid hm; have hm1 : m ≤ 11 := (by have := HU.out; omega); have HB := Lib.hid b1; clear b1 hm)
  | fail)
 go_ret
 exact ⟨by rw [needN, ← HM.out]; rfl, HB.out⟩

/-- A code's numbers. -/
def cdB (d t : Int) : Bool := decide (1 ≤ d) && (decide (d ≤ 8) && (decide (d ≤ t) && decide (t ≤ 16)))
set_option maxHeartbeats 1000000 in
theorem rcode_any (d t : Int) (w : World) :
  Calls Tryz.prog 47 #[.int .i64 d, .int .i64 t] w fun e w' => e = .returned (.bool (cdB d t)) ∧ w' = w := by
 by_cases h1 : 1 ≤ d
 ·
  have e1 : decide (1 ≤ d) = true := decide_eq_true h1
  by_cases h2 : d ≤ 8
  ·
   have e2 : decide (d ≤ 8) = true := decide_eq_true h2
   by_cases h3 : d ≤ t
   ·
    have e3 : decide (d ≤ t) = true := decide_eq_true h3
    have HR : Hid (cdB d t = decide (t ≤ 16)) := Lib.hid (by rw [cdB, e1, e2, e3]; rfl)
    clear h1 h2 h3
    go_enter Tryz.func47, Tryz.ntmps47
    go_wp2_with fail
    go_ret
    exact ⟨ret_bool HR.out.symm, rfl⟩
   ·
    have e3 : decide (d ≤ t) = false := decide_eq_false h3
    have HR : Hid (cdB d t = false) := Lib.hid (by rw [cdB, e1, e2, e3]; rfl)
    clear h1 h2 h3
    go_enter Tryz.func47, Tryz.ntmps47
    go_wp2_with fail
    go_ret
    exact ⟨ret_bool HR.out.symm, rfl⟩
  ·
   have e2 : decide (d ≤ 8) = false := decide_eq_false h2
   have HR : Hid (cdB d t = false) := Lib.hid (by rw [cdB, e1, e2]; rfl)
   clear h1 h2
   go_enter Tryz.func47, Tryz.ntmps47
   go_wp2_with fail
   go_ret
   exact ⟨ret_bool HR.out.symm, rfl⟩
 ·
  have e1 : decide (1 ≤ d) = false := decide_eq_false h1
  have HR : Hid (cdB d t = false) := Lib.hid (by rw [cdB, e1]; rfl)
  clear h1
  go_enter Tryz.func47, Tryz.ntmps47
  go_wp2_with fail
  go_ret
  exact ⟨ret_bool HR.out.symm, rfl⟩
end Go.Proofs.YtfcakjpljjnjnaaGreatDoor
/- ref11.ClassOf: the size classes. -/
namespace Go.Proofs.YtfcakjpljjnjnaaGreatDoor
open Go Go.RowKit Gf Sha

/-- The classes in ascending order. -/
def clsAt (t : Nat) : Nat := 2 ^ (t / 4) * (64 + 16 * (t % 4))
def clsG : Nat → Nat → Nat → Nat
 | 0, t, _ => clsAt t
 | f + 1, t, n => if n ≤ clsAt t then clsAt t else clsG f (t + 1) n
/-- The least class that is at least n. -/
def clsOf (n : Nat) : Nat := clsG 44 0 n
theorem clsAt_eq (q b : Nat) (hb : b < 4) : clsAt (4 * q + b) = 64 * 2 ^ q + 16 * 2 ^ q * b := by
 rw [clsAt, show (4 * q + b) / 4 = q by omega, show (4 * q + b) % 4 = b by omega, Nat.mul_add, Nat.mul_comm 64, Nat.mul_comm (2 ^ q) (16 * b), Nat.mul_right_comm 16]
theorem clsG_hit {f t n : Nat} (h : n ≤ clsAt t) : clsG f t n = clsAt t := by
 cases f with
 | zero => rfl
 | succ f => rw [clsG, if_pos h]
theorem clsG_miss {f t n : Nat} (h : ¬ n ≤ clsAt t) : clsG (f + 1) t n = clsG f (t + 1) n := by rw [clsG, if_neg h]
theorem pow10 {q : Nat} (h : 2 ^ q < 1024) : q < 10 := by
 rcases Nat.lt_or_ge q 10 with h1 | h1
 ·
  exact h1
 ·
  have := Nat.pow_le_pow_right (n := 2) (by decide) h1
  omega
set_option maxHeartbeats 2000000 in
theorem rclass_any (n : Nat) (w : World) (hn : n ≤ 65536) :
  Calls Tryz.prog 79 #[.int .i64 (n : Int)] w fun e w' => e = .returned (.int .i64 (clsOf n : Int)) ∧ w' = w := by
 go_enter Tryz.func79, Tryz.ntmps79
 go_wp2_with fail
 go_loopw [3] (fun iv wr => wr = w ∧ ∃ q bs : Nat, q ≤ 10 ∧ bs ≤ 65536 ∧ iv = .int .i64 (bs : Int) ∧ Hid (64 ≤ bs ∧ bs = 64 * 2 ^ q) ∧ Hid (clsG (44 - 4 * q) (4 * q) n = clsOf n)) (fun iv _ => 200000 - (intOf iv).toNat)
 case atStart => exact ⟨rfl, 0, 64, by omega, by omega, rfl, Lib.hid ⟨by omega, rfl⟩, Lib.hid rfl⟩
 case round =>
  obtain ⟨rfl, q, bs, hq, hbs, rfl, HB, HG⟩ := hrel
  go_wp2_with fail
  go_loopw [4] (fun iv wr' => wr' = wr ∧ ∃ b : Nat, b ≤ 4 ∧ iv = .int .i64 (b : Int) ∧ Hid (clsG (44 - (4 * q + b)) (4 * q + b) n = clsOf n) ∧ Hid (0 < b → q < 10)) (fun iv _ => 4 - (intOf iv).toNat)
  case atStart => exact ⟨rfl, 0, by omega, rfl, HG, Lib.hid (fun h => absurd h (by omega))⟩
  case round =>
   obtain ⟨rfl, b, hb, rfl, HC, HQ⟩ := hrel
   by_cases hlt : b < 4
   ·
    obtain ⟨bq, hbq⟩ : ∃ bq, bq = 16 * 2 ^ q := ⟨_, rfl⟩
    obtain ⟨p, hp⟩ : ∃ p, p = bq * b := ⟨_, rfl⟩
    have hbq4 : bq * 4 = bs := by rw [hbq, HB.out.2]; omega
    have hpb : p ≤ 65536 := by
     have : bq * b ≤ bq * 4 := Nat.mul_le_mul_left _ (by omega)
     omega
    have HAT : Hid (clsAt (4 * q + b) = bs + p) := Lib.hid (by rw [clsAt_eq q b hlt, hp, hbq, HB.out.2])
    have h4 : Int.tdiv (bs : Int) 4 = (bq : Int) := by rw [Int.tdiv_eq_ediv_of_nonneg (by omega)]; omega
    have hbqb : bq ≤ 16384 := by omega
    have h5 : wrap64 ((bq : Int) * (b : Int)) = (p : Int) := by
     rw [show (bq : Int) * (b : Int) = (p : Int) by rw [hp]; push_cast; rfl]
     unfold wrap64
     omega
    clear hbq hp hbq4
    by_cases hc : n ≤ bs + p
    ·
     have h6 : decide ((n : Int) ≤ (bs : Int) + (p : Int)) = true := decide_eq_true (by omega)
     have h7 : decide (n ≤ bs + p) = true := decide_eq_true hc
     have HR : Hid (clsOf n = bs + p) := Lib.hid (by rw [← HC.out, clsG_hit (by rw [HAT.out]; exact hc), HAT.out])
     clear hc
     go_wp2_with fail
     go_ret
     exact ⟨by rw [HR.out]; push_cast; rfl, rfl⟩
    ·
     have h6 : decide ((n : Int) ≤ (bs : Int) + (p : Int)) = false := decide_eq_false (by omega)
     have h7 : decide (n ≤ bs + p) = false := decide_eq_false hc
     have HQ1 : Hid (q < 10) := Lib.hid (pow10 (by have := HB.out.2; omega))
     have HR : Hid (clsG (44 - (4 * q + (b + 1))) (4 * q + (b + 1)) n = clsOf n) := Lib.hid (by
      rw [← HC.out, show 44 - (4 * q + b) = (44 - (4 * q + (b + 1))) + 1 by omega, clsG_miss (by rw [HAT.out]; exact hc)]; rfl)
     clear hc
     go_wp2_with fail
     go_roundw
     case rel => exact ⟨trivial, b + 1, by omega, by go_num, HR, Lib.hid (fun _ => HQ1.out)⟩
     case measure => simp [intOf]; omega
   ·
    obtain rfl : b = 4 := by omega
    have HQ1 : Hid (q < 10) := Lib.hid (HQ.out (by omega))
    have hb1 : bs ≤ 32768 := by
     have h1 := HB.out.2
     have h2 : 2 ^ q ≤ 2 ^ 9 := Nat.pow_le_pow_right (by decide) (by have := HQ1.out; omega)
     omega
    have HS : Hid (64 ≤ 2 * bs ∧ 2 * bs = 64 * 2 ^ (q + 1)) := Lib.hid ⟨by have := HB.out.1; omega, by have := HB.out.2; rw [Nat.pow_succ]; omega⟩
    have HR : Hid (clsG (44 - 4 * (q + 1)) (4 * (q + 1)) n = clsOf n) := HC
    go_wp2_with fail
    go_roundw
    case rel => exact ⟨trivial, q + 1, 2 * bs, by have := HQ1.out; omega, by omega, by go_num, HS, HR⟩
    case measure =>
     have := HB.out.1
     simp [intOf]
     omega
end Go.Proofs.YtfcakjpljjnjnaaGreatDoor
/- ref30.Class. -/
namespace Go.Proofs.YtfcakjpljjnjnaaGreatDoor
open Go Go.RowKit Gf Sha

/-- The class of a valid ref. -/
def clsR (r : Rf) : Int := (clsOf (needN r.2.2.toNat) : Int)
theorem needN_le {n : Nat} (h : n ≤ 32768) : needN n ≤ 32800 := by
 have := (uv_length n).2
 unfold needN
 omega
theorem rfB_size {r : Rf} (h : rfB r = true) : ∃ n : Nat, r.2.2 = (n : Int) ∧ n ≤ 32768 := by
 simp only [rfB, Bool.and_eq_true, decide_eq_true_eq] at h
 exact ⟨r.2.2.toNat, by omega, by omega⟩
set_option maxHeartbeats 1000000 in
theorem rcls_any (r : Rf) (w : World) (hr : rfB r = true) :
  Calls Tryz.prog 49 #[.agg (rfL r).toArray] w fun e w' => e = .returned (.int .i64 (clsR r)) ∧ Below w.heap.size w w' := by
 obtain ⟨n, hn, hle⟩ := rfB_size hr
 have HR : Hid (clsR r = (clsOf (needN n) : Int)) := Lib.hid (by rw [clsR, hn]; rfl)
 have HN : Hid (rfL r = [.string (strB r.1), .int .i64 r.2.1, .int .i64 (n : Int)]) := Lib.hid (by rw [rfL, hn])
 have HC1 := Lib.hid (fun w => rneed_any n w (by omega))
 have HC2 := Lib.hid (fun w => rclass_any (needN n) w (by have := needN_le hle; omega))
 clear hn hr
 go_enter Tryz.func49, Tryz.ntmps49
 go_wp2_with (first
  | ((with_reducible show OpW 1); refine wpList_box _ rfl 44 (.tmp 0) rfl (rfL r) rfl ?_; intro w1 a1 a2 a3; have HB1 := Lib.hid a2; rw [HN.out] at a1; have q2 := a1.get (j := 2) rfl; clear a1 a2 a3)
  | (go_at_call 80; refine (HC1.out _).mono ?_; rintro e w2 ⟨rfl, b2⟩; have HB2 := Lib.hid (below_then HB1.out b2); clear b2)
  | (go_at_call 79; refine (HC2.out _).mono ?_; rintro e w3 ⟨rfl, hw⟩; rw [hw]; clear hw w3))
 go_ret
 exact ⟨by rw [HR.out]; rfl, HB2.out⟩
end Go.Proofs.YtfcakjpljjnjnaaGreatDoor
