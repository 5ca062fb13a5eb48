/- Contracts of package gf256 that touch memory: multiplier and its closure, Scale, MulAdd. -/
import Derived.Test.YtakedococfklgaaGfW
import Derived.Test.YtakedococfklgaaMem
import Derived.Test.YtakedococfklgaaMk
namespace Go.Proofs.Ytakedococfklgaa
open Go.RowKit Gf

attribute [local go_sem] Gf.xor_bits Gf.and_bits Gf.or_bits Gf.and128 Gf.and1 Gf.xor29 Gf.shl1 Gf.shr1 Gf.ne_zero_iff Gf.eq_zero_iff Gf.eq_one_iff Gf.beq_bytes Gf.bne_bytes Gf.bv_toNat

theorem mul_int (x y : Int) (w : World) (hx : 0 ≤ x) (hx' : x < 256) (hy : 0 ≤ y) (hy' : y < 256) :
    Calls Try.prog 76 #[.int .u8 x, .int .u8 y] w fun e w' => e = .returned (B (mul (UInt8.ofNat x.toNat) (UInt8.ofNat y.toNat))) ∧ w = w' := by
  have h := mul_any (UInt8.ofNat x.toNat) (UInt8.ofNat y.toNat) w
  rw [B, B, bv_ofNat x hx hx', bv_ofNat y hy hy'] at h
  exact h

/-- The lower table of multiplier after k rounds. -/
def low (c : UInt8) (k : Nat) : List UInt8 := (List.range 16).map fun i => if i < k then mul c (UInt8.ofNat i) else 0
def high (c : UInt8) (k : Nat) : List UInt8 := (List.range 16).map fun i => if i < k then mul c (UInt8.ofNat i * 16) else 0
theorem low_length (c : UInt8) (k : Nat) : (low c k).length = 16 := by simp [low]
theorem high_length (c : UInt8) (k : Nat) : (high c k).length = 16 := by simp [high]
theorem set_range (f : Nat → UInt8) (k : Nat) (_hk : k < 16) : ((List.range 16).map fun i => if i < k then f i else 0).set k (f k) = (List.range 16).map fun i => if i < k + 1 then f i else 0 := by
  apply List.ext_getElem (by simp)
  intro i h1 h2
  rw [List.getElem_set]
  simp only [List.getElem_map, List.getElem_range]
  by_cases h : k = i
  · subst h; simp
  · rw [if_neg h]
    by_cases h3 : i < k
    · rw [if_pos h3, if_pos (by omega)]
    · rw [if_neg h3, if_neg (by omega)]
theorem low_set (c : UInt8) (k : Nat) (hk : k < 16) : (low c k).set k (mul c (UInt8.ofNat k)) = low c (k + 1) := set_range (fun i => mul c (UInt8.ofNat i)) k hk
theorem high_set (c : UInt8) (k : Nat) (hk : k < 16) : (high c k).set k (mul c (UInt8.ofNat k * 16)) = high c (k + 1) := set_range (fun i => mul c (UInt8.ofNat i * 16)) k hk

def Tabs (c : UInt8) (g k : Nat) (w w' : World) : Prop :=
  Blk w' g 131 (row (low c k)) ∧ Blk w' (g + 1) 131 (row (high c k)) ∧ Below g w w' ∧ w'.heap.size = g + 2

set_option maxHeartbeats 400000 in
theorem multiplier_any (c : UInt8) (w : World) :
    Calls Try.prog 83 #[B c] w fun e w' => e = .returned (.func (.func 103) #[] #[.pointer (some ⟨w.heap.size, 0, none⟩), .pointer (some ⟨w.heap.size + 1, 0, none⟩)]) ∧ Tabs c w.heap.size 16 w w' := by
  have hmf : ∀ (fn : Fn) (first cap : Array Value) (w : World), (Instr.makeFunc fn first cap).run Try.prog w = .ok (.func fn first cap) w := fun _ _ _ _ => rfl
  go_enter Try.func83, Try.ntmps83
  go_wp2
  go_loopw [6] (fun i wr => ∃ k : Nat, k ≤ 16 ∧ i = .int .i64 (k : Int) ∧ Tabs c w.heap.size k w wr) (fun i _ => 16 - (intOf i).toNat)
  case atStart =>
    refine ⟨0, by omega, rfl, ?_, ?_, ?_, ?_⟩
    · exact (Blk.new w _ _).alloc _
    · have h := Blk.new (w.alloc (.cells (row (low c 0)) 131)) 131 (row (high c 0))
      rw [World.size_alloc] at h
      exact h
    · exact ((Below.refl _ _).alloc (Nat.le_refl _) _).alloc (by simp) _
    · simp
  case round =>
    obtain ⟨k, hk, rfl, h1, h2, hb, hz⟩ := hrel
    by_cases hlt : k < 16
    · have c1 : wr.cell? ⟨w.heap.size, k, none⟩ = some (B (gB (low c k) k)) := by rw [h1.cell]; exact row_get _ _ (by rw [low_length]; exact hlt)
      have f1 := h1.frozen k
      have h1' := h1.set_ k (B (mul c (UInt8.ofNat k)))
      rw [row_set, low_set c k hlt] at h1'
      have h2' := h2.far (p := ⟨w.heap.size, k, none⟩) (by simp) (B (mul c (UInt8.ofNat k)))
      have c2 : (wr.setCell ⟨w.heap.size, k, none⟩ (B (mul c (UInt8.ofNat k)))).cell? ⟨w.heap.size + 1, k, none⟩ = some (B (gB (high c k) k)) := by rw [h2'.cell]; exact row_get _ _ (by rw [high_length]; exact hlt)
      have f2 := h2'.frozen k
      have h2'' := h2'.set_ k (B (mul c (UInt8.ofNat k * 16)))
      rw [row_set, high_set c k hlt] at h2''
      have h1'' := h1'.far (p := ⟨w.heap.size + 1, k, none⟩) (by simp) (B (mul c (UInt8.ofNat k * 16)))
      have HR : Hid (Tabs c w.heap.size (k + 1) w ((wr.setCell ⟨w.heap.size, k, none⟩ (B (mul c (UInt8.ofNat k)))).setCell ⟨w.heap.size + 1, k, none⟩ (B (mul c (UInt8.ofNat k * 16))))) :=
        Lib.hid ⟨h1'', h2'', (hb.setCell (by simp) _).setCell (by simp) _, by simp [World.setCell, hz]⟩
      clear h1 h2 h1' h2' h1'' h2'' hb hz
      go_wp2_with (go_at_call 76; refine (mul_int _ _ _ (bv_lo _) (bv_hi _) (by omega) (by omega)).mono ?_; rintro e w' ⟨rfl, rfl⟩)
      go_roundw
      case rel => exact ⟨k + 1, by omega, by go_num, HR.out⟩
      case measure => simp [intOf]; omega
    · obtain rfl : k = 16 := by omega
      have HR : Hid (Tabs c w.heap.size 16 w wr) := Lib.hid ⟨h1, h2, hb, hz⟩
      clear h1 h2 hb hz
      go_wp2
      go_ret
      exact ⟨rfl, HR.out⟩

theorem low_get (c : UInt8) (i : Nat) (h : i < 16) : gB (low c 16) i = mul c (UInt8.ofNat i) := by
  simp [gB, low, List.getD, h]
theorem high_get (c : UInt8) (i : Nat) (h : i < 16) : gB (high c 16) i = mul c (UInt8.ofNat i * 16) := by
  simp [gB, high, List.getD, h]
theorem and15 (a : UInt8) : bits .and .u8 (bv a) 15 = bv a % 16 := u8_and15 _ (bv_lo a) (bv_hi a)

set_option maxHeartbeats 400000 in
theorem times_any (c a : UInt8) (g : Nat) (w : World) (h1 : Blk w g 131 (row (low c 16))) (h2 : Blk w (g + 1) 131 (row (high c 16))) :
    Calls Try.prog 103 #[B a, .pointer (some ⟨g, 0, none⟩), .pointer (some ⟨g + 1, 0, none⟩)] w fun e w' => e = .returned (B (mul c a)) ∧ ∃ n, w' = w.drewN n := by
  have hl := bv_lo a
  have hh := bv_hi a
  have c1 : w.cell? ⟨g, (bv a % 16).toNat, none⟩ = some (B (mul c (UInt8.ofNat (bv a % 16).toNat))) := by
    rw [h1.cell, row_get _ _ (by rw [low_length]; omega), low_get _ _ (by omega)]
  have c2 : w.cell? ⟨g + 1, (bv a / 16).toNat, none⟩ = some (B (mul c (UInt8.ofNat (bv a / 16).toNat * 16))) := by
    rw [h2.cell, row_get _ _ (by rw [high_length]; omega), high_get _ _ (by omega)]
  have HF : Hid (mul c (UInt8.ofNat (bv a % 16).toNat) ^^^ mul c (UInt8.ofNat (bv a / 16).toNat * 16) = mul c a) := by
    rw [← mul_xor, nibbles]; exact Lib.hid rfl
  have q1 : 0 ≤ bv a % 16 := by omega
  have q2 : bv a % 16 < 16 := by omega
  have q3 : 0 ≤ bv a / 16 := by omega
  have q4 : bv a / 16 < 16 := by omega
  have e15 := and15 a
  clear h1 h2
  go_enter Try.func103, Try.ntmps103
  go_wp2
  go_quiet (fail)
  go_wp2
  go_ret
  exact ⟨ret_u8 HF.out, _, rfl⟩

/-- What the rounds of Scale keep. -/
def ScaleI (c : UInt8) (l : List UInt8) (g gm k : Nat) (w wr : World) : Prop :=
  Blk wr g 5 (row (part (mul c) l k)) ∧ Blk wr gm 131 (row (low c 16)) ∧ Blk wr (gm + 1) 131 (row (high c 16)) ∧ Below w.heap.size w wr ∧ w.heap.size ≤ g ∧ g ≠ gm ∧ g ≠ gm + 1

def Rets (R : World → Value → World → Prop) (w : World) (e : Ending) (w' : World) : Prop := ∃ v, e = .returned v ∧ R w v w'

set_option maxHeartbeats 400000 in
theorem scale_any (A : Option Addr) (n cp : Nat) (l : List UInt8) (c : UInt8) (w : World) (h : BS w A n cp l) :
    Calls Try.prog 60 #[.slice A n cp, B c] w (Rets (NewB 5 (l.map (mul c))) w) := by
  have hn := h.len_le
  have hmk := make_bytes n hn
  have hln := h.1
  have HL := Lib.hid hln
  clear hln
  go_enter Try.func60, Try.ntmps60
  go_wp2_with (go_at_call 83; refine (multiplier_any _ _).mono ?_; rintro e w1 ⟨rfl, htabs⟩)
  go_loopw [16] (fun i wr => ∃ k : Nat, k ≤ n ∧ i = .int .i64 (k : Int) ∧ ScaleI c l w1.heap.size w.heap.size k w wr) (fun i _ => n - (intOf i).toNat)
  case atStart =>
    obtain ⟨t1, t2, t3, t4⟩ := htabs
    refine ⟨0, by omega, rfl, ?_, t1.alloc _, t2.alloc _, t3.alloc t3.size _, t3.size, by omega, by omega⟩
    rw [part_zero, HL.out]
    exact Blk.new w1 _ _
  case round =>
    obtain ⟨k, hk, rfl, h1, h2, h3, hb, hg, hne1, hne2⟩ := hrel
    by_cases hlt : k < n
    · obtain ⟨g, o, rfl, hc⟩ := h.at_ hb hlt
      have c1 : wr.cell? ⟨w1.heap.size, k, none⟩ = some (B (gB (part (mul c) l k) k)) := by
        rw [h1.cell]; exact row_get _ _ (by rw [part_length _ _ _ (by rw [HL.out]; exact hk), HL.out]; exact hlt)
      have f1 := h1.frozen k
      have H1 := Lib.hid h1
      have H2 := Lib.hid h2
      have H3 := Lib.hid h3
      have HB := Lib.hid hb
      clear h1 h2 h3 hb hmk
      go_wp2_with (go_at_call 103; refine (times_any c _ w.heap.size _ H2.out H3.out).mono ?_; rintro e w' ⟨rfl, nq, rfl⟩)
      go_roundw
      case rel =>
        refine ⟨k + 1, by omega, by go_num, ?_, (H2.out.drewN nq).far hne1.symm _, (H3.out.drewN nq).far hne2.symm _, (below_drewN HB.out nq).setCell hg _, hg, hne1, hne2⟩
        have := (H1.out.drewN nq).set_ k (B (mul c (gB l k)))
        rw [row_set, part_set _ _ _ (by rw [HL.out]; exact hlt)] at this
        exact this
      case measure => simp [intOf]; omega
    · have hl : part (mul c) l k = l.map (mul c) := part_all _ _ _ (by rw [HL.out]; omega)
      have HR : Hid (NewB 5 (l.map (mul c)) w (.slice (some ⟨w1.heap.size, 0, none⟩) n n) wr) := by
        refine Lib.hid ⟨w1.heap.size, n, rfl, by rw [List.length_map, HL.out], hg, by rw [← hl]; exact h1, hb⟩
      clear h1 h2 h3 hb hl hmk
      go_wp2
      go_ret
      exact ⟨_, rfl, HR.out⟩

def MulAddI (dst src : List UInt8) (c : UInt8) (g k : Nat) (w wr : World) : Prop :=
  Blk wr g 5 (row (mpart dst src c k)) ∧ Below w.heap.size w wr ∧ w.heap.size ≤ g

def Rets0 (R : World → Value → World → Prop) (w : World) (e : Ending) (w' : World) : Prop := ∃ v, e = .returned (.tuple #[v, .int .i64 0]) ∧ R w v w'

set_option maxHeartbeats 400000 in
theorem muladd_any (A A' : Option Addr) (n cp cp' : Nat) (dst src : List UInt8) (c : UInt8) (w : World) (h : BS w A n cp dst) (h' : BS w A' n cp' src) :
    Calls Try.prog 38 #[.slice A n cp, .slice A' n cp', B c] w (Rets0 (NewB 5 (muladd dst src c)) w) := by
  have hn := h.len_le
  have HL := Lib.hid h.1
  have HL' := Lib.hid h'.1
  have HE : Hid (dst.length = src.length) := Lib.hid (by rw [HL.out, HL'.out])
  go_enter Try.func38, Try.ntmps38
  go_wp2_with fail
  refine (scale_any A' n cp' src c w h').mono ?_
  rintro e w1 ⟨v, rfl, g, n1, rfl, hn1, hg, hblk, hb⟩
  obtain rfl : n = n1 := by rw [← hn1, List.length_map, HL'.out]
  clear hn1
  have H0 := Lib.hid hblk
  have HB0 := Lib.hid hb
  clear hblk hb
  go_wp2_with fail
  go_loopw [21] (fun i wr => ∃ k : Nat, k ≤ n ∧ i = .int .i64 (k : Int) ∧ MulAddI dst src c g k w wr) (fun i _ => n - (intOf i).toNat)
  case atStart => exact ⟨0, by omega, rfl, by rw [mpart_zero]; exact H0.out, HB0.out, hg⟩
  case round =>
    obtain ⟨k, hk, rfl, h1, hb, _⟩ := hrel
    by_cases hlt : k < n
    · obtain ⟨ga, o, rfl, hc⟩ := h.at_ hb hlt
      have c1 : wr.cell? ⟨g, k, none⟩ = some (B (mul c (gB src k))) := by
        rw [h1.cell, row_get _ _ (by rw [mpart_length _ _ _ HE.out _ (by rw [HL'.out]; exact hk), HL'.out]; exact hlt), mpart_get _ _ _ HE.out _ (by rw [HL'.out]; exact hlt)]
      have f1 := h1.frozen k
      have H1 := Lib.hid h1
      have HB := Lib.hid hb
      clear h1 hb
      go_wp2
      go_roundw
      case rel =>
        refine ⟨k + 1, by omega, by go_num, ?_, HB.out.setCell hg _, hg⟩
        have := H1.out.set_ k (B (mul c (gB src k) ^^^ gB dst k))
        rw [row_set, mpart_set _ _ _ HE.out _ (by rw [HL'.out]; exact hlt)] at this
        exact this
      case measure => simp [intOf]; omega
    · have HR : Hid (NewB 5 (muladd dst src c) w (.slice (some ⟨g, 0, none⟩) n n) wr) := by
        exact Lib.hid ⟨g, n, rfl, by rw [muladd_length _ _ _ HE.out, HL'.out], hg, by rw [← mpart_all _ _ _ HE.out k (by rw [HL'.out]; omega)]; exact h1, hb⟩
      clear h1 hb
      go_wp2
      go_ret2
      exact ⟨_, rfl, HR.out⟩
end Go.Proofs.Ytakedococfklgaa
