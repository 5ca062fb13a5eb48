/- Several texts in one: GfM, Mat, Mat2, Mat3. -/
import Derived.Test.YtfcakjpljjnjnaaGreatDoorC28
import Derived.Test.YtfcakjpljjnjnaaGreatDoorC1
import Derived.Test.YtfcakjpljjnjnaaGreatDoorC6
import Derived.Deep.RegionHeld3
import Derived.Deep.RegionLaw
import Derived.Deep.RegionWith
/- Contracts of package gf256 that touch memory: multiplier and its closure, Scale, MulAdd. -/
namespace Go.Proofs.YtfcakjpljjnjnaaGreatDoor
open Go.RowKit Gf

attribute [local go_sem] Gf.xor_bits Gf.and_bits Gf.or_bits Gf.and128 Gf.and1 Gf.xor29 Gf.shl1 Gf.shr1 Gf.ne_zero_iff Gf.eq_zero_iff Gf.eq_one_iff Gf.beq_bytes Gf.bne_bytes Gf.bv_toNat

theorem mul_int (x y : Int) (w : World) (hx : 0 ≤ x) (hx' : x < 256) (hy : 0 ≤ y) (hy' : y < 256) :
  Calls Tryz.prog 152 #[.int .u8 x, .int .u8 y] w fun e w' => e = .returned (B (mul (UInt8.ofNat x.toNat) (UInt8.ofNat y.toNat))) ∧ w = w' := by
 have h := mul_any (UInt8.ofNat x.toNat) (UInt8.ofNat y.toNat) w
 rw [B, B, bv_ofNat x hx hx', bv_ofNat y hy hy'] at h
 exact h

/-- The lower table of multiplier after k rounds. -/
def low (c : UInt8) (k : Nat) : List UInt8 := (List.range 16).map fun i => if i < k then mul c (UInt8.ofNat i) else 0
def high (c : UInt8) (k : Nat) : List UInt8 := (List.range 16).map fun i => if i < k then mul c (UInt8.ofNat i * 16) else 0
theorem low_length (c : UInt8) (k : Nat) : (low c k).length = 16 := by simp [low]
theorem high_length (c : UInt8) (k : Nat) : (high c k).length = 16 := by simp [high]
theorem set_range (f : Nat → UInt8) (k : Nat) (_hk : k < 16) : ((List.range 16).map fun i => if i < k then f i else 0).set k (f k) = (List.range 16).map fun i => if i < k + 1 then f i else 0 := by
 apply List.ext_getElem (by simp)
 intro i h1 h2
 rw [List.getElem_set]
 simp only [List.getElem_map, List.getElem_range]
 by_cases h : k = i
 ·
  subst h; simp
 ·
  rw [if_neg h]
  by_cases h3 : i < k
  ·
   rw [if_pos h3, if_pos (by omega)]
  ·
   rw [if_neg h3, if_neg (by omega)]
theorem low_set (c : UInt8) (k : Nat) (hk : k < 16) : (low c k).set k (mul c (UInt8.ofNat k)) = low c (k + 1) := set_range (fun i => mul c (UInt8.ofNat i)) k hk
theorem high_set (c : UInt8) (k : Nat) (hk : k < 16) : (high c k).set k (mul c (UInt8.ofNat k * 16)) = high c (k + 1) := set_range (fun i => mul c (UInt8.ofNat i * 16)) k hk

def e8Tabs (c : UInt8) (g k : Nat) (w w' : World) : Prop :=
 Blk w' g 218 (row (low c k)) ∧ Blk w' (g + 1) 218 (row (high c k)) ∧ Below g w w' ∧ w'.heap.size = g + 2

set_option maxHeartbeats 400000 in
theorem multiplier_any (c : UInt8) (w : World) :
  Calls Tryz.prog 163 #[B c] w fun e w' => e = .returned (.func (.func 166) #[] #[.pointer (some ⟨w.heap.size, 0, none⟩), .pointer (some ⟨w.heap.size + 1, 0, none⟩)]) ∧ e8Tabs c w.heap.size 16 w w' := by
 have hmf : ∀ (fn : Fn) (first cap : Array Value) (w : World), (Instr.makeFunc fn first cap).run Tryz.prog w = .ok (.func fn first cap) w := fun _ _ _ _ => rfl
 go_enter Tryz.func163, Tryz.ntmps163
 go_wp2
 go_loopw [6] (fun i wr => ∃ k : Nat, k ≤ 16 ∧ i = .int .i64 (k : Int) ∧ e8Tabs c w.heap.size k w wr) (fun i _ => 16 - (intOf i).toNat)
 case atStart =>
  refine ⟨0, by omega, rfl, ?_, ?_, ?_, ?_⟩
  ·
   exact (Blk.new w _ _).alloc _
  ·
   have h := Blk.new (w.alloc (.cells (row (low c 0)) 218)) 218 (row (high c 0))
   rw [World.size_alloc] at h
   exact h
  ·
   exact ((Below.refl _ _).alloc (Nat.le_refl _) _).alloc (by simp) _
  ·
   simp
 case round =>
  obtain ⟨k, hk, rfl, h1, h2, hb, hz⟩ := hrel
  by_cases hlt : k < 16
  ·
   have c1 : wr.cell? ⟨w.heap.size, k, none⟩ = some (B (gB (low c k) k)) := by rw [h1.cell]; exact row_get _ _ (by rw [low_length]; exact hlt)
   have f1 := h1.frozen k
   have h1' := h1.set_ k (B (mul c (UInt8.ofNat k)))
   rw [row_set, low_set c k hlt] at h1'
   have h2' := h2.far (p := ⟨w.heap.size, k, none⟩) (by simp) (B (mul c (UInt8.ofNat k)))
   have c2 : (wr.setCell ⟨w.heap.size, k, none⟩ (B (mul c (UInt8.ofNat k)))).cell? ⟨w.heap.size + 1, k, none⟩ = some (B (gB (high c k) k)) := by rw [h2'.cell]; exact row_get _ _ (by rw [high_length]; exact hlt)
   have f2 := h2'.frozen k
   have h2'' := h2'.set_ k (B (mul c (UInt8.ofNat k * 16)))
   rw [row_set, high_set c k hlt] at h2''
   have h1'' := h1'.far (p := ⟨w.heap.size + 1, k, none⟩) (by simp) (B (mul c (UInt8.ofNat k * 16)))
   have HR : Hid (e8Tabs c w.heap.size (k + 1) w ((wr.setCell ⟨w.heap.size, k, none⟩ (B (mul c (UInt8.ofNat k)))).setCell ⟨w.heap.size + 1, k, none⟩ (B (mul c (UInt8.ofNat k * 16))))) :=
    Lib.hid ⟨h1'', h2'', (hb.setCell (by simp) _).setCell (by simp) _, by simp [World.setCell, hz]⟩
   clear h1 h2 h1' h2' h1'' h2'' hb hz
   go_wp2_with (go_at_call 152; refine (mul_int _ _ _ (bv_lo _) (bv_hi _) (by omega) (by omega)).mono ?_; rintro e w' ⟨rfl, rfl⟩)
   go_roundw
   case rel => exact ⟨k + 1, by omega, by go_num, HR.out⟩
   case measure => simp [intOf]; omega
  ·
   obtain rfl : k = 16 := by omega
   have HR : Hid (e8Tabs c w.heap.size 16 w wr) := Lib.hid ⟨h1, h2, hb, hz⟩
   clear h1 h2 hb hz
   go_wp2
   go_ret
   exact ⟨rfl, HR.out⟩

theorem low_get (c : UInt8) (i : Nat) (h : i < 16) : gB (low c 16) i = mul c (UInt8.ofNat i) := by
 simp [gB, low, List.getD, h]
theorem high_get (c : UInt8) (i : Nat) (h : i < 16) : gB (high c 16) i = mul c (UInt8.ofNat i * 16) := by
 simp [gB, high, List.getD, h]
theorem and15 (a : UInt8) : bits .and .u8 (bv a) 15 = bv a % 16 := u8_and15 _ (bv_lo a) (bv_hi a)

set_option maxHeartbeats 400000 in
theorem times_any (c a : UInt8) (g : Nat) (w : World) (h1 : Blk w g 218 (row (low c 16))) (h2 : Blk w (g + 1) 218 (row (high c 16))) :
  Calls Tryz.prog 166 #[B a, .pointer (some ⟨g, 0, none⟩), .pointer (some ⟨g + 1, 0, none⟩)] w fun e w' => e = .returned (B (mul c a)) ∧ ∃ n, w' = w.drewN n := by
 have hl := bv_lo a
 have hh := bv_hi a
 have c1 : w.cell? ⟨g, (bv a % 16).toNat, none⟩ = some (B (mul c (UInt8.ofNat (bv a % 16).toNat))) := by
  rw [h1.cell, row_get _ _ (by rw [low_length]; omega), low_get _ _ (by omega)]
 have c2 : w.cell? ⟨g + 1, (bv a / 16).toNat, none⟩ = some (B (mul c (UInt8.ofNat (bv a / 16).toNat * 16))) := by
  rw [h2.cell, row_get _ _ (by rw [high_length]; omega), high_get _ _ (by omega)]
 have HF : Hid (mul c (UInt8.ofNat (bv a % 16).toNat) ^^^ mul c (UInt8.ofNat (bv a / 16).toNat * 16) = mul c a) := by
  rw [← mul_xor, nibbles]; exact Lib.hid rfl
 have q1 : 0 ≤ bv a % 16 := by omega
 have q2 : bv a % 16 < 16 := by omega
 have q3 : 0 ≤ bv a / 16 := by omega
 have q4 : bv a / 16 < 16 := by omega
 have e15 := and15 a
 clear h1 h2
 go_enter Tryz.func166, Tryz.ntmps166
 go_wp2
 go_quiet (fail)
 go_wp2
 go_ret
 exact ⟨ret_u8 HF.out, _, rfl⟩

/-- What the rounds of Scale keep. -/
def ScaleI (c : UInt8) (l : List UInt8) (g gm k : Nat) (w wr : World) : Prop :=
 Blk wr g 5 (row (part (mul c) l k)) ∧ Blk wr gm 218 (row (low c 16)) ∧ Blk wr (gm + 1) 218 (row (high c 16)) ∧ Below w.heap.size w wr ∧ w.heap.size ≤ g ∧ g ≠ gm ∧ g ≠ gm + 1

def Rets (R : World → Value → World → Prop) (w : World) (e : Ending) (w' : World) : Prop := ∃ v, e = .returned v ∧ R w v w'

set_option maxHeartbeats 400000 in
theorem scale_any (A : Option Addr) (n cp : Nat) (l : List UInt8) (c : UInt8) (w : World) (h : BS w A n cp l) :
  Calls Tryz.prog 159 #[.slice A n cp, B c] w (Rets (NewB 5 (l.map (mul c))) w) := by
 have hn := h.len_le
 have hmk := make_bytes n hn
 have hln := h.1
 have HL := Lib.hid hln
 clear hln
 go_enter Tryz.func159, Tryz.ntmps159
 go_wp2_with (go_at_call 163; refine (multiplier_any _ _).mono ?_; rintro e w1 ⟨rfl, htabs⟩)
 go_loopw [16] (fun i wr => ∃ k : Nat, k ≤ n ∧ i = .int .i64 (k : Int) ∧ ScaleI c l w1.heap.size w.heap.size k w wr) (fun i _ => n - (intOf i).toNat)
 case atStart =>
  obtain ⟨t1, t2, t3, t4⟩ := htabs
  refine ⟨0, by omega, rfl, ?_, t1.alloc _, t2.alloc _, t3.alloc t3.size _, t3.size, by omega, by omega⟩
  rw [part_zero, HL.out]
  exact Blk.new w1 _ _
 case round =>
  obtain ⟨k, hk, rfl, h1, h2, h3, hb, hg, hne1, hne2⟩ := hrel
  by_cases hlt : k < n
  ·
   obtain ⟨g, o, rfl, hc⟩ := h.at_ hb hlt
   have c1 : wr.cell? ⟨w1.heap.size, k, none⟩ = some (B (gB (part (mul c) l k) k)) := by
    rw [h1.cell]; exact row_get _ _ (by rw [part_length _ _ _ (by rw [HL.out]; exact hk), HL.out]; exact hlt)
   have f1 := h1.frozen k
   have H1 := Lib.hid h1
   have H2 := Lib.hid h2
   have H3 := Lib.hid h3
   have HB := Lib.hid hb
   clear h1 h2 h3 hb hmk
   go_wp2_with (go_at_call 166; refine (times_any c _ w.heap.size _ H2.out H3.out).mono ?_; rintro e w' ⟨rfl, nq, rfl⟩)
   go_roundw
   case rel =>
    refine ⟨k + 1, by omega, by go_num, ?_, (H2.out.drewN nq).far hne1.symm _, (H3.out.drewN nq).far hne2.symm _, (below_drewN HB.out nq).setCell hg _, hg, hne1, hne2⟩
    have := (H1.out.drewN nq).set_ k (B (mul c (gB l k)))
    rw [row_set, part_set _ _ _ (by rw [HL.out]; exact hlt)] at this
    exact this
   case measure => simp [intOf]; omega
  ·
   have hl : part (mul c) l k = l.map (mul c) := part_all _ _ _ (by rw [HL.out]; omega)
   have HR : Hid (NewB 5 (l.map (mul c)) w (.slice (some ⟨w1.heap.size, 0, none⟩) n n) wr) := by
    refine Lib.hid ⟨w1.heap.size, n, rfl, by rw [List.length_map, HL.out], hg, by rw [← hl]; exact h1, hb⟩
   clear h1 h2 h3 hb hl hmk
   go_wp2
   go_ret
   exact ⟨_, rfl, HR.out⟩

def MulAddI (dst src : List UInt8) (c : UInt8) (g k : Nat) (w wr : World) : Prop :=
 Blk wr g 5 (row (mpart dst src c k)) ∧ Below w.heap.size w wr ∧ w.heap.size ≤ g

def Rets0 (R : World → Value → World → Prop) (w : World) (e : Ending) (w' : World) : Prop := ∃ v, e = .returned (.tuple #[v, .int .i64 0]) ∧ R w v w'

set_option maxHeartbeats 400000 in
theorem muladd_any (A A' : Option Addr) (n cp cp' : Nat) (dst src : List UInt8) (c : UInt8) (w : World) (h : BS w A n cp dst) (h' : BS w A' n cp' src) :
  Calls Tryz.prog 151 #[.slice A n cp, .slice A' n cp', B c] w (Rets0 (NewB 5 (muladd dst src c)) w) := by
 have hn := h.len_le
 have HL := Lib.hid h.1
 have HL' := Lib.hid h'.1
 have HE : Hid (dst.length = src.length) := Lib.hid (by rw [HL.out, HL'.out])
 go_enter Tryz.func151, Tryz.ntmps151
 go_wp2_with fail
 refine (scale_any A' n cp' src c w h').mono ?_
 rintro e w1 ⟨v, rfl, g, n1, rfl, hn1, hg, hblk, hb⟩
 obtain rfl : n = n1 := by rw [← hn1, List.length_map, HL'.out]
 clear hn1
 have H0 := Lib.hid hblk
 have HB0 := Lib.hid hb
 clear hblk hb
 go_wp2_with fail
 go_loopw [21] (fun i wr => ∃ k : Nat, k ≤ n ∧ i = .int .i64 (k : Int) ∧ MulAddI dst src c g k w wr) (fun i _ => n - (intOf i).toNat)
 case atStart => exact ⟨0, by omega, rfl, by rw [mpart_zero]; exact H0.out, HB0.out, hg⟩
 case round =>
  obtain ⟨k, hk, rfl, h1, hb, _⟩ := hrel
  by_cases hlt : k < n
  ·
   obtain ⟨ga, o, rfl, hc⟩ := h.at_ hb hlt
   have c1 : wr.cell? ⟨g, k, none⟩ = some (B (mul c (gB src k))) := by
    rw [h1.cell, row_get _ _ (by rw [mpart_length _ _ _ HE.out _ (by rw [HL'.out]; exact hk), HL'.out]; exact hlt), mpart_get _ _ _ HE.out _ (by rw [HL'.out]; exact hlt)]
   have f1 := h1.frozen k
   have H1 := Lib.hid h1
   have HB := Lib.hid hb
   clear h1 hb
   go_wp2
   go_roundw
   case rel =>
    refine ⟨k + 1, by omega, by go_num, ?_, HB.out.setCell hg _, hg⟩
    have := H1.out.set_ k (B (mul c (gB src k) ^^^ gB dst k))
    rw [row_set, mpart_set _ _ _ HE.out _ (by rw [HL'.out]; exact hlt)] at this
    exact this
   case measure => simp [intOf]; omega
  ·
   have HR : Hid (NewB 5 (muladd dst src c) w (.slice (some ⟨g, 0, none⟩) n n) wr) := by
    exact Lib.hid ⟨g, n, rfl, by rw [muladd_length _ _ _ HE.out, HL'.out], hg, by rw [← mpart_all _ _ _ HE.out k (by rw [HL'.out]; omega)]; exact h1, hb⟩
   clear h1 hb
   go_wp2
   go_ret2
   exact ⟨_, rfl, HR.out⟩
end Go.Proofs.YtfcakjpljjnjnaaGreatDoor
/- Contracts of package matrix, as far as valid matrices go: columns, Valid, inRange, zeros, Identity, combine, Apply, Mul. -/
namespace Go.Proofs.YtfcakjpljjnjnaaGreatDoor
open Go.RowKit Gf

theorem infoBytes : (Tryz.prog.info? 39).map (fun i => (i.zero, i.size, i.bytes)) = some (some (.slice none 0 0), 1, 24) := by kernel_rfl
theorem make_rows (n : Nat) (h : n * 24 ≤ 140737488355328) (w : World) :
  (Instr.makeSlice 45 (.int .i64 (n : Int)) (.int .i64 (n : Int))).run Tryz.prog w = .ok (.slice (some ⟨w.heap.size, 0, none⟩) n n) (w.alloc (.cells (Array.replicate n (.slice none 0 0)) 39)) := by
 obtain ⟨i, hi, hz, hs, hb⟩ := info_parts infoBytes
 have hr := run_make (P := Tryz.prog) w 45 39 i _ Tryz.underlying45 hi hz .i64 .i64 n n (by omega) (by omega) (by rw [hb]; omega) (by omega)
 rw [hr, hs]
 simp only [Int.toNat_natCast, Value.cells, Nat.mul_one]
 rw [made_one]
 simp

attribute [local go_sem] Gf.xor_bits Gf.and_bits Gf.or_bits Gf.ne_zero_iff Gf.eq_zero_iff Gf.eq_one_iff Gf.beq_bytes Gf.bne_bytes Gf.bv_toNat

theorem ret_int {k : IntKind} {a b : Int} (h : a = b) : Ending.returned (.int k a) = .returned (.int k b) := by rw [h]

/-- Every row has the length L. -/
def Rect (m : List (List UInt8)) (L : Nat) : Prop := ∀ i, i < m.length → (gR m i).length = L

set_option maxHeartbeats 400000 in
theorem columns_any (A : Option Addr) (n c : Nat) (m : List (List UInt8)) (w : World) (h : MS w A n c m) :
  Calls Tryz.prog 131 #[.slice A n c] w fun e w' => e = .returned (.int .i64 ((gR m 0).length : Int)) ∧ w = w' := by
 have hn := h.len_le
 by_cases h0 : n = 0
 ·
  subst h0
  have hm : m = [] := List.eq_nil_of_length_eq_zero h.1
  subst hm
  go_enter Tryz.func131, Tryz.ntmps131
  go_wp2
  go_ret
  exact ⟨rfl, rfl⟩
 ·
  have hb0 : ((n : Int) == 0) = false := by simp; omega
  have hp : 0 < n := by omega
  obtain ⟨g, o, A', n', c', rfl, hc, hr⟩ := h.at_ (Below.refl _ _) hp
  rw [Nat.add_zero] at hc
  have HL := Lib.hid hr.1
  clear h0 hr
  go_enter Tryz.func131, Tryz.ntmps131
  go_wp2
  go_ret
  exact ⟨ret_int (by rw [HL.out]), rfl⟩

set_option maxHeartbeats 400000 in
theorem valid_any (A : Option Addr) (n c : Nat) (m : List (List UInt8)) (L : Nat) (w : World) (h : MS w A n c m) (hr : Rect m L) (hn : n ≤ 64) (hL : L ≤ 64) :
  Calls Tryz.prog 130 #[.slice A n c] w fun e w' => e = .returned (.bool true) ∧ w = w' := by
 have hcol : (gR m 0).length ≤ 64 := by
  by_cases h0 : 0 < m.length
  ·
   rw [hr 0 h0]; exact hL
  ·
   have hm : m = [] := List.eq_nil_of_length_eq_zero (by omega)
   subst hm; simp [gR]
 have hd : decide ((64 : Int) < (n : Int)) = false := by simp; omega
 have hd2 : decide ((64 : Int) < ((gR m 0).length : Int)) = false := by simp; omega
 have HL := Lib.hid h.1
 go_enter Tryz.func130, Tryz.ntmps130
 go_wp2_with (go_at_call 131; refine (columns_any A n c m _ h).mono ?_; rintro e w' ⟨rfl, rfl⟩)
 go_loop [15] (fun i => ∃ k : Nat, k ≤ n ∧ i = .int .i64 (k : Int)) (fun i => n - (intOf i).toNat)
 case atStart => exact ⟨0, by omega, rfl⟩
 case round =>
  obtain ⟨k, hk, rfl⟩ := hrel
  by_cases hlt : k < n
  ·
   obtain ⟨g, o, A1, n1, c1, rfl, hc, hr1⟩ := h.at_ (Below.refl _ _) hlt
   obtain ⟨g', o', A2, n2, c2, e2, hc2, hr2⟩ := h.at_ (Below.refl _ _) (show 0 < n by omega)
   injection e2 with e2
   injection e2 with e3 e4
   subst e3 e4
   rw [Nat.add_zero] at hc2
   have hne : n1 = n2 := by
    rw [← hr1.1, ← hr2.1, hr k (by rw [HL.out]; exact hlt), hr 0 (by rw [HL.out]; omega)]
   subst hne
   clear hr1 hr2 h
   go_wp2
   go_round
   case rel => exact ⟨k + 1, by omega, by go_num⟩
   case measure => simp [intOf]; omega
  ·
   clear h
   go_wp2
   go_ret
   exact ⟨rfl, rfl⟩

set_option maxHeartbeats 400000 in
theorem inRange_any (n : Int) (w : World) (h0 : 0 ≤ n) (h1 : n ≤ 64) :
  Calls Tryz.prog 162 #[.int .i64 n] w fun e w' => e = .returned (.bool true) ∧ w = w' := by
 have d0 : decide (0 ≤ n) = true := by simpa using h0
 have d1 : decide (n ≤ 64) = true := by simpa using h1
 go_enter Tryz.func162, Tryz.ntmps162
 go_wp2
 go_ret
 exact ⟨rfl, rfl⟩

/-- The cells of the outer block of zeros after k rounds: row i lies in block g + 1 + i. -/
def ptrs (g c k r : Nat) : Array Value := ((List.range r).map fun i => if i < k then Value.slice (some ⟨g + 1 + i, 0, none⟩) c c else .slice none 0 0).toArray
theorem ptrs_size (g c k r : Nat) : (ptrs g c k r).size = r := by simp [ptrs]
theorem ptrs_get (g c k r i : Nat) (h : i < r) : (ptrs g c k r)[i]? = some (if i < k then Value.slice (some ⟨g + 1 + i, 0, none⟩) c c else .slice none 0 0) := by
 simp [ptrs, List.getElem?_range h]
theorem ptrs_zero (g c r : Nat) : ptrs g c 0 r = Array.replicate r (.slice none 0 0) := by
 apply Array.ext (by simp [ptrs])
 intro i h1 h2
 simp [ptrs]
theorem ptrs_set (g c k r : Nat) (_h : k < r) : (ptrs g c k r).setIfInBounds k (.slice (some ⟨g + 1 + k, 0, none⟩) c c) = ptrs g c (k + 1) r := by
 apply Array.ext (by simp [ptrs])
 intro i h1 h2
 rw [Array.getElem_setIfInBounds (by simpa [ptrs] using h1)]
 by_cases e : k = i
 ·
  subst e; simp [ptrs]
 ·
  rw [if_neg e]
  simp only [ptrs, List.getElem_toArray, List.getElem_map, List.getElem_range]
  by_cases h3 : i < k
  ·
   rw [if_pos h3, if_pos (by omega)]
  ·
   rw [if_neg h3, if_neg (by omega)]

/-- Rows of bytes, each in its own block from g + 1 on, behind the outer block g. -/
def Grid (w : World) (g : Nat) (k r c : Nat) (f : Nat → List UInt8) (w0 : World) : Prop :=
 Blk w g 39 (ptrs g c k r) ∧ (∀ i, i < k → Blk w (g + 1 + i) 5 (row (f i))) ∧ Below g w0 w ∧ w.heap.size = g + 1 + k

def GridRet (r c : Nat) (f : Nat → List UInt8) (w : World) (e : Ending) (w' : World) : Prop :=
 e = .returned (.slice (some ⟨w.heap.size, 0, none⟩) r r) ∧ Grid w' w.heap.size r r c f w

set_option maxHeartbeats 400000 in
theorem zeros_any (r c : Nat) (w : World) (hr : r * 24 ≤ 140737488355328) (hc : c ≤ 140737488355328) :
  Calls Tryz.prog 150 #[.int .i64 (r : Int), .int .i64 (c : Int)] w (GridRet r c (fun _ => zeros c) w) := by
 have hmk := make_rows r hr
 have hmb := make_bytes c hc
 go_enter Tryz.func150, Tryz.ntmps150
 go_wp2
 clear hmk
 go_loopw [11] (fun i wr => ∃ k : Nat, k ≤ r ∧ i = .int .i64 (k : Int) ∧ Grid wr w.heap.size k r c (fun _ => zeros c) w) (fun i _ => r - (intOf i).toNat)
 case atStart =>
  refine ⟨0, by omega, rfl, ?_, fun i hi => absurd hi (by omega), (Below.refl _ _).alloc (Nat.le_refl _) _, by simp⟩
  rw [ptrs_zero]
  exact Blk.new w _ _
 case round =>
  obtain ⟨k, hk, rfl, h1, h2, hb, hz⟩ := hrel
  by_cases hlt : k < r
  ·
   have c1 : wr.cell? ⟨w.heap.size, k, none⟩ = some (.slice none 0 0) := by
    rw [h1.cell, ptrs_get _ _ _ _ _ hlt, if_neg (by omega)]
   have f1 := h1.frozen k
   have hzl : w.heap.size < wr.heap.size := by omega
   have H1 := Lib.hid h1
   have H2 := Lib.hid h2
   have HB := Lib.hid hb
   have HZ := Lib.hid hz
   clear h1 h2 hb hz
   go_wp2
   go_roundw
   case rel =>
    refine ⟨k + 1, by omega, by go_num, ?_, ?_, ?_, ?_⟩
    ·
     have := (H1.out.set_ k (.slice (some ⟨w.heap.size + 1 + k, 0, none⟩) c c)).alloc (.cells (row (zeros c)) 5)
     rw [ptrs_set _ _ _ _ hlt, ← HZ.out] at this
     exact this
    ·
     intro i hi
     by_cases e : i < k
     ·
      exact ((H2.out i e).far (p := ⟨w.heap.size, k, none⟩) (by simp; omega) _).alloc _
     ·
      obtain rfl : i = k := by omega
      have := Blk.new (wr.setCell ⟨w.heap.size, i, none⟩ (.slice (some ⟨wr.heap.size, 0, none⟩) c c)) 5 (row (zeros c))
      rw [World.size_setCell, HZ.out] at this
      rw [HZ.out]
      exact this
    ·
     exact (HB.out.setCell (p := ⟨w.heap.size, k, none⟩) (Nat.le_refl _) _).alloc (by rw [World.size_setCell]; have := HZ.out; omega) _
    ·
     have := HZ.out
     rw [World.size_alloc, World.size_setCell]; omega
   case measure => simp [intOf]; omega
  ·
   obtain rfl : k = r := by omega
   have HR : Hid (Grid wr w.heap.size k k c (fun _ => zeros c) w) := Lib.hid ⟨h1, h2, hb, hz⟩
   clear h1 h2 hb hz
   go_wp2
   go_ret
   exact ⟨rfl, HR.out⟩

theorem Grid.rowsBlk {w w0 : World} {g r c : Nat} {f : Nat → List UInt8} (h : Grid w g r r c f w0) (hf : ∀ i, i < r → (f i).length = c) (hc : c ≤ lim) :
  RowsBlk w g 39 (ptrs g c r r) ((List.range r).map f) := by
 refine ⟨h.1, by simp [ptrs_size], fun i hi => ?_⟩
 have hi' : i < r := by simpa using hi
 refine ⟨some ⟨g + 1 + i, 0, none⟩, c, c, by rw [ptrs_get _ _ _ _ _ hi', if_pos hi'], ?_⟩
 have hb := BS.of_blk (h.2.1 i hi') (hf i hi') hc
 rw [gR_eq hi]
 simpa using hb

/-- Row i of the identity. -/
def unit (n i : Nat) : List UInt8 := (zeros n).set i 1
theorem unit_length (n i : Nat) : (unit n i).length = n := by simp [unit, zeros_length]

set_option maxHeartbeats 400000 in
theorem identity_any (n : Nat) (w : World) (hn : n ≤ 64) :
  Calls Tryz.prog 157 #[.int .i64 (n : Int)] w (GridRet n n (unit n) w) := by
 go_enter Tryz.func157, Tryz.ntmps157
 go_wp2_with (first
  | (go_at_call 162; refine (inRange_any _ _ (by omega) (by omega)).mono ?_; rintro e w' ⟨rfl, rfl⟩)
  | (go_at_call 150; refine (zeros_any n n _ (by omega) (by omega)).mono ?_; rintro e w1 ⟨rfl, hgrid⟩))
 go_loopw [13] (fun i wr => ∃ k : Nat, k ≤ n ∧ i = .int .i64 (k : Int) ∧ Grid wr w.heap.size n n n (fun i => if i < k then unit n i else zeros n) w) (fun i _ => n - (intOf i).toNat)
 case atStart =>
  refine ⟨0, by omega, rfl, hgrid.1, fun i hi => ?_, hgrid.2.2.1, hgrid.2.2.2⟩
  simp only [Nat.not_lt_zero, if_false]
  exact hgrid.2.1 i hi
 case round =>
  obtain ⟨k, hk, rfl, h1, h2, hb, hz⟩ := hrel
  by_cases hlt : k < n
  ·
   have c1 : wr.cell? ⟨w.heap.size, k, none⟩ = some (.slice (some ⟨w.heap.size + 1 + k, 0, none⟩) n n) := by
    rw [h1.cell, ptrs_get _ _ _ _ _ hlt, if_pos hlt]
   have hk2 := h2 k hlt
   simp only [Nat.lt_irrefl, if_false] at hk2
   have c2 : wr.cell? ⟨w.heap.size + 1 + k, k, none⟩ = some (B (gB (zeros n) k)) := by
    rw [hk2.cell, row_get _ _ (by rw [zeros_length]; exact hlt)]
   have f2 := hk2.frozen k
   have H1 := Lib.hid h1
   have H2 := Lib.hid h2
   have HB := Lib.hid hb
   have HZ := Lib.hid hz
   have HK := Lib.hid hk2
   clear h1 h2 hb hz hk2
   go_wp2
   go_roundw
   case rel =>
    refine ⟨k + 1, by omega, by go_num, H1.out.far (by simp; omega) _, fun i hi => ?_, HB.out.setCell (by simp; omega) _, by rw [World.size_setCell]; exact HZ.out⟩
    by_cases e : i = k
    ·
     subst e
     simp only [Nat.lt_succ_self, if_true]
     have := HK.out.set_ i (B 1)
     rw [row_set] at this
     exact this
    ·
     have := (H2.out i hi).far (p := ⟨w.heap.size + 1 + k, k, none⟩) (by simp; omega) (.int .u8 1)
     by_cases e2 : i < k
     ·
      simp only [e2, if_true] at this
      simp only [show i < k + 1 by omega, if_true]
      exact this
     ·
      simp only [e2, if_false] at this
      simp only [show ¬ i < k + 1 by omega, if_false]
      exact this
   case measure => simp [intOf]; omega
  ·
   obtain rfl : k = n := by omega
   have HR : Hid (Grid wr w.heap.size k k k (unit k) w) := Lib.hid ⟨h1, fun i hi => by have := h2 i hi; simp only [hi, if_true] at this; exact this, hb, hz⟩
   clear h1 h2 hb hz
   go_wp2
   go_ret
   exact ⟨rfl, HR.out⟩
end Go.Proofs.YtfcakjpljjnjnaaGreatDoor
/- Contracts of package matrix: combine, Apply, Mul. -/
namespace Go.Proofs.YtfcakjpljjnjnaaGreatDoor
open Go.RowKit Gf

attribute [local go_sem] Gf.xor_bits Gf.and_bits Gf.or_bits Gf.ne_zero_iff Gf.eq_zero_iff Gf.eq_one_iff Gf.beq_bytes Gf.bne_bytes Gf.bv_toNat

/-- One row times blocks of length L, after the first k elements of the row. -/
def comb (row : List UInt8) (blocks : List (List UInt8)) (L : Nat) : Nat → List UInt8
 | 0 => zeros L
 | k + 1 => if gB row k = 0 then comb row blocks L k else muladd (comb row blocks L k) (gR blocks k) (gB row k)
theorem comb_length (row : List UInt8) (blocks : List (List UInt8)) (L : Nat) (hr : Rect blocks L) : ∀ k, k ≤ blocks.length → (comb row blocks L k).length = L
 | 0, _ => zeros_length L
 | k + 1, h => by
  unfold comb
  have ih := comb_length row blocks L hr k (by omega)
  by_cases e : gB row k = 0
  ·
   rw [if_pos e]; exact ih
  ·
   rw [if_neg e, muladd_length _ _ _ (by rw [ih, hr k (by omega)]), hr k (by omega)]

/-- Rows i of the product: those before r are done, row r after k elements, the others zero. -/
def crow (m blocks : List (List UInt8)) (L r k i : Nat) : List UInt8 := comb (gR m i) blocks L (if i < r then (gR m i).length else if i = r then k else 0)
def cmat (m blocks : List (List UInt8)) (L r k : Nat) : List (List UInt8) := (List.range m.length).map (crow m blocks L r k)
theorem cmat_length (m blocks : List (List UInt8)) (L r k : Nat) : (cmat m blocks L r k).length = m.length := by simp [cmat]
theorem cmat_get (m blocks : List (List UInt8)) (L r k i : Nat) (h : i < m.length) : gR (cmat m blocks L r k) i = crow m blocks L r k i := by
 rw [gR_eq (by rw [cmat_length]; exact h)]; simp [cmat]
theorem cmat_zero (m blocks : List (List UInt8)) (L : Nat) : cmat m blocks L 0 0 = (List.range m.length).map (fun _ => zeros L) := by
 apply List.ext_getElem (by simp [cmat])
 intro i h1 h2
 simp [cmat, crow, comb]
theorem cmat_next (m blocks : List (List UInt8)) (L r : Nat) (k : Nat) (h : (gR m r).length ≤ k) (hk : k ≤ (gR m r).length) : cmat m blocks L r k = cmat m blocks L (r + 1) 0 := by
 obtain rfl : k = (gR m r).length := by omega
 apply List.ext_getElem (by simp [cmat])
 intro i h1 h2
 simp only [cmat, List.getElem_map, List.getElem_range, crow]
 by_cases e1 : i < r
 ·
  rw [if_pos e1, if_pos (by omega)]
 ·
  rw [if_neg e1]
  by_cases e2 : i = r
  ·
   subst e2; rw [if_pos rfl, if_pos (by omega)]
  ·
   rw [if_neg e2, if_neg (by omega)]
   by_cases e3 : i = r + 1
   ·
    rw [if_pos e3]
   ·
    rw [if_neg e3]
theorem cmat_skip (m blocks : List (List UInt8)) (L r k : Nat) (h : gB (gR m r) k = 0) : cmat m blocks L r k = cmat m blocks L r (k + 1) := by
 apply List.ext_getElem (by simp [cmat])
 intro i h1 h2
 simp only [cmat, List.getElem_map, List.getElem_range, crow]
 by_cases e1 : i < r
 ·
  rw [if_pos e1, if_pos e1]
 ·
  rw [if_neg e1, if_neg e1]
  by_cases e2 : i = r
  ·
   subst e2; rw [if_pos rfl, if_pos rfl]; conv => rhs; unfold comb
   rw [if_pos h]
  ·
   rw [if_neg e2, if_neg e2]
theorem cmat_set (m blocks : List (List UInt8)) (L r k : Nat) (_hr : r < m.length) (h : gB (gR m r) k ≠ 0) :
  (cmat m blocks L r k).set r (muladd (crow m blocks L r k r) (gR blocks k) (gB (gR m r) k)) = cmat m blocks L r (k + 1) := by
 apply List.ext_getElem (by simp [cmat])
 intro i h1 h2
 rw [List.getElem_set]
 simp only [cmat, List.getElem_map, List.getElem_range]
 by_cases e : r = i
 ·
  subst e
  rw [if_pos rfl]
  simp only [crow, Nat.lt_irrefl, if_false, if_true]
  conv => rhs; unfold comb
  rw [if_neg h]
 ·
  rw [if_neg e]
  simp only [crow]
  by_cases e1 : i < r
  ·
   rw [if_pos e1, if_pos e1]
  ·
   rw [if_neg e1, if_neg e1, if_neg (Ne.symm e), if_neg (Ne.symm e)]
theorem crow_length (m blocks : List (List UInt8)) (L r k i : Nat) (hr : Rect blocks L) (hm : Rect m blocks.length) (hi : i < m.length) (hk : k ≤ blocks.length) : (crow m blocks L r k i).length = L := by
 unfold crow
 apply comb_length _ _ _ hr
 by_cases e1 : i < r
 ·
  rw [if_pos e1, hm i hi]; exact Nat.le_refl _
 ·
  rw [if_neg e1]; by_cases e2 : i = r
  ·
   rw [if_pos e2]; exact hk
  ·
   rw [if_neg e2]; omega

def CombI (m blocks : List (List UInt8)) (L g r k : Nat) (w wr : World) : Prop :=
 ∃ cs, RowsBlk wr g 39 cs (cmat m blocks L r k) ∧ Below w.heap.size w wr ∧ w.heap.size ≤ g

set_option maxHeartbeats 1000000 in
theorem combine_any (A A' : Option Addr) (n n' c c' : Nat) (m blocks : List (List UInt8)) (L : Nat) (w : World) (h : MS w A n c m) (h' : MS w A' n' c' blocks)
  (hm : Rect m n') (hbk : Rect blocks L) (hL : L ≤ 140737488355328) :
  Calls Tryz.prog 132 #[.slice A n c, .slice A' n' c', .int .i64 (L : Int)] w (Rets (NewM 39 (cmat m blocks L n 0)) w) := by
 have hn := h.len_le
 have hn' := h'.len_le
 have HLm := Lib.hid h.1
 have HLb := Lib.hid h'.1
 go_enter Tryz.func132, Tryz.ntmps132
 go_wp2_with (go_at_call 150; refine (zeros_any n L _ hn hL).mono ?_; rintro e w1 ⟨rfl, hgrid⟩)
 go_loopw [18] (fun i wr => ∃ r : Nat, r ≤ n ∧ i = .int .i64 (r : Int) ∧ CombI m blocks L w.heap.size r 0 w wr) (fun i _ => n - (intOf i).toNat)
 case atStart =>
  refine ⟨0, by omega, rfl, ptrs w.heap.size L n n, ?_, hgrid.2.2.1, Nat.le_refl _⟩
  rw [cmat_zero, HLm.out]
  exact hgrid.rowsBlk (fun i _ => zeros_length L) hL
 case round =>
  obtain ⟨r, hr, rfl, cs, h1, hb, _⟩ := hrel
  by_cases hlt : r < n
  ·
   obtain ⟨ga, oa, A1, n1, c1, rfl, hca0, hra⟩ := h.at_ (Below.refl _ _) hlt
   obtain rfl : n1 = n' := by rw [← hra.1, hm r (by rw [HLm.out]; exact hlt)]
   have hca := cell_kept hb hca0
   have H1 := Lib.hid h1
   have HB := Lib.hid hb
   clear h1 hb hca0
   go_wp2
   obtain ⟨wo, rfl⟩ : ∃ wo : World, wo = wr := ⟨_, rfl⟩
   go_loopw [25] (fun i wr => ∃ k : Nat, k ≤ n1 ∧ i = .int .i64 (k : Int) ∧ CombI m blocks L w.heap.size r k w wr) (fun i _ => n1 - (intOf i).toNat)
   case atStart => exact ⟨0, by omega, rfl, _, H1.out, HB.out, Nat.le_refl _⟩
   case round =>
    obtain ⟨k, hk, rfl, cs', h2, hb2, _⟩ := hrel
    clear hca
    by_cases hlt2 : k < n1
    ·
     obtain ⟨gr, ob, rfl, hcr⟩ := hra.at_ hb2 hlt2
     by_cases hz : gB (gR m r) k = 0
     ·
      have hz' : (gB (gR m r) k != 0) = false := by simp [hz]
      have HR : Hid (CombI m blocks L w.heap.size r (k + 1) w wr) := Lib.hid ⟨cs', by rw [← cmat_skip _ _ _ _ _ hz]; exact h2, hb2, Nat.le_refl _⟩
      clear hz h2 hb2
      go_wp2
      go_roundw
      case rel => exact ⟨k + 1, by omega, by go_num, HR.out⟩
      case measure => simp [intOf]; omega
     ·
      have hz' : (gB (gR m r) k != 0) = true := by simp [hz]
      obtain ⟨gb, o2, A2, n2, c2, rfl, hcb0, hrb⟩ := h'.at_ (Below.refl _ _) hlt2
      have hcb := cell_kept hb2 hcb0
      obtain ⟨A3, n3, c3, hc3, hr3⟩ := h2.cell (i := r) (by rw [cmat_length, HLm.out]; exact hlt)
      rw [cmat_get _ _ _ _ _ _ (by rw [HLm.out]; exact hlt)] at hr3
      obtain rfl : n2 = L := by rw [← hrb.1, hbk k (by rw [HLb.out]; exact hlt2)]
      obtain rfl : n3 = n2 := by
       rw [← hr3.1, crow_length m blocks n2 r k r hbk (by rw [HLb.out]; exact hm) (by rw [HLm.out]; exact hlt) (by rw [HLb.out]; exact hk)]
      have hrbw := hrb.kept hb2
      have f3 := h2.1.frozen r
      have HS := Lib.hid (cmat_set m blocks n3 r k (by rw [HLm.out]; exact hlt) hz)
      have H2 := Lib.hid h2
      have HB2 := Lib.hid hb2
      have HR3 := Lib.hid hr3
      have HRB := Lib.hid hrbw
      have q1 : (0 : Int) ≤ (r : Int) := by omega
      have q2 : (r : Int) < (n : Int) := by omega
      have q3 : (0 : Int) ≤ (k : Int) := by omega
      have q4 : (k : Int) < (n1 : Int) := by omega
      clear hz h2 hb2 hcb0 hrb hr3 hrbw
      go_wp2
      go_region_with (go_at_call 151; refine (muladd_any _ _ _ _ _ _ _ _ _ HR3.out.drew HRB.out.drew).mono ?_; rintro e w2 ⟨v, rfl, g2, nn, rfl, hnn, hg2, hblk2, hbe2⟩; have hc2 := cell_kept (w := wr.drew) hbe2 hc3; have hf2 := (H2.out.1.drew.kept hbe2).frozen r)
      all_goals
       go_wp2
       go_roundw
       case rel =>
        have hml : nn ≤ lim := by
         rw [← hnn, muladd_length _ _ _ (by rw [HR3.out.1, HRB.out.1]), HRB.out.1]; exact hL
        have := ((H2.out.drew).kept hbe2).set_ (i := r) (by rw [cmat_length, HLm.out]; exact hlt) (BS.of_blk hblk2 hnn hml)
        rw [HS.out] at this
        exact ⟨k + 1, by omega, by go_num, _, this, (below_thenB HB2.out HB2.out.size (below_ofDrew hbe2)).setCell (Nat.le_refl _) _, Nat.le_refl _⟩
       case measure => simp [intOf]; omega
    ·
     have HR : Hid (CombI m blocks L w.heap.size (r + 1) 0 w wr) := by
      refine Lib.hid ⟨cs', ?_, hb2, Nat.le_refl _⟩
      rw [← cmat_next m blocks L r k (by rw [hm r (by rw [HLm.out]; exact hlt)]; omega) (by rw [hm r (by rw [HLm.out]; exact hlt)]; omega)]
      exact h2
     clear h2 hb2
     go_wp2
     go_roundw
     case rel => exact ⟨r + 1, by omega, by go_num, HR.out⟩
     case measure => simp [intOf]; omega
  ·
   obtain rfl : r = n := by omega
   have HR : Hid (NewM 39 (cmat m blocks L r 0) w (.slice (some ⟨w.heap.size, 0, none⟩) r r) wr) := by
    exact Lib.hid ⟨w.heap.size, cs, r, rfl, by rw [cmat_length, HLm.out], Nat.le_refl _, h1, hb⟩
   clear h1 hb
   go_wp2
   go_ret
   exact ⟨_, rfl, HR.out⟩
end Go.Proofs.YtfcakjpljjnjnaaGreatDoor
/- Contracts of package matrix: Apply and Mul on matrices that fit. -/
namespace Go.Proofs.YtfcakjpljjnjnaaGreatDoor
open Go.RowKit Gf

attribute [local go_sem] Gf.xor_bits Gf.and_bits Gf.or_bits Gf.ne_zero_iff Gf.eq_zero_iff Gf.eq_one_iff Gf.beq_bytes Gf.bne_bytes Gf.bv_toNat

theorem ncols_eq {m : List (List UInt8)} {L : Nat} (h : Rect m L) (h0 : 0 < m.length) : (gR m 0).length = L := h 0 h0

set_option maxHeartbeats 1000000 in
theorem apply_any (A A' : Option Addr) (n n' c c' : Nat) (m blocks : List (List UInt8)) (L : Nat) (w : World) (h : MS w A n c m) (h' : MS w A' n' c' blocks)
  (hm : Rect m n') (hbk : Rect blocks L) (hL : L ≤ 140737488355328) (hn : 0 < n) (hn64 : n ≤ 64) (hn' : 0 < n') (hn64' : n' ≤ 64) :
  Calls Tryz.prog 92 #[.slice A n c, .slice A' n' c'] w (Rets0 (NewM 39 (cmat m blocks L n 0)) w) := by
 have HLm := Lib.hid h.1
 have HLb := Lib.hid h'.1
 have HC := Lib.hid (ncols_eq hm (by rw [h.1]; exact hn))
 have HC' := Lib.hid (ncols_eq hbk (by rw [h'.1]; exact hn'))
 go_enter Tryz.func92, Tryz.ntmps92
 go_wp2_with (first
  | (go_at_call 130; refine (valid_any A n c m n' _ h hm hn64 hn64').mono ?_; rintro e w' ⟨rfl, rfl⟩)
  | (go_at_call 131; refine (columns_any A n c m _ h).mono ?_; rintro e w' ⟨rfl, rfl⟩; rw [HC.out]))
 go_loop [20] (fun i => ∃ k : Nat, k ≤ n' ∧ i = .int .i64 (k : Int)) (fun i => n' - (intOf i).toNat)
 case atStart => exact ⟨0, by omega, rfl⟩
 case round =>
  obtain ⟨k, hk, rfl⟩ := hrel
  by_cases hlt : k < n'
  ·
   obtain ⟨g, o, A1, n1, c1, rfl, hc, hr1⟩ := h'.at_ (Below.refl _ _) hlt
   obtain ⟨g', o', A2, n2, c2, e2, hc2, hr2⟩ := h'.at_ (Below.refl _ _) hn'
   injection e2 with e2
   injection e2 with e3 e4
   subst e3 e4
   rw [Nat.add_zero] at hc2
   have hne : n1 = n2 := by
    rw [← hr1.1, ← hr2.1, hbk k (by rw [HLb.out]; exact hlt), hbk 0 (by rw [HLb.out]; omega)]
   subst hne
   clear hr1 hr2 h h'
   go_wp2
   go_round
   case rel => exact ⟨k + 1, by omega, by go_num⟩
   case measure => simp [intOf]; omega
  ·
   go_wp2_with (first
    | (go_at_call 131; refine (columns_any A' n' c' blocks _ h').mono ?_; rintro e w' ⟨rfl, rfl⟩; rw [HC'.out])
    | (go_at_call 132; refine (combine_any A A' n n' c c' m blocks L _ h h' hm hbk hL).mono ?_; rintro e w' ⟨v, rfl, hv⟩))
   go_ret2
   exact ⟨_, rfl, hv⟩

end Go.Proofs.YtfcakjpljjnjnaaGreatDoor
