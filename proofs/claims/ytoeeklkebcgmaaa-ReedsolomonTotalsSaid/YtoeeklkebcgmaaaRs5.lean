/- Contracts of package reedsolomon: Encode. -/
import Derived.Test.YtoeeklkebcgmaaaRs4
namespace Go.Proofs.Ytoeeklkebcgmaaa
open Go.RowKit Gf

attribute [local go_sem] Gf.xor_bits Gf.and_bits Gf.or_bits Gf.ne_zero_iff Gf.eq_zero_iff Gf.eq_one_iff Gf.beq_bytes Gf.bne_bytes Gf.bv_toNat

theorem Blk.new1 (w : World) (o : Obj) (t : TypeId) (cs : Array Value) : Blk ((w.alloc o).alloc (.cells cs t)) (w.heap.size + 1) t cs := by
  have h := Blk.new (w.alloc o) t cs
  rw [World.size_alloc] at h
  exact h
def lenOf : Value → Nat | .slice _ n _ => n | _ => 0

/-- Blocks, filled up with zeros to k of them. -/
def fillB (blocks : List (List UInt8)) (L k : Nat) : List (List UInt8) := blocks ++ List.replicate (k - blocks.length) (zeros L)
theorem fillB_start (blocks : List (List UInt8)) (L : Nat) : fillB blocks L blocks.length = blocks := by simp [fillB]
theorem fillB_length (blocks : List (List UInt8)) (L k : Nat) (h : blocks.length ≤ k) : (fillB blocks L k).length = k := by simp [fillB]; omega
theorem fillB_succ (blocks : List (List UInt8)) (L k : Nat) (h : blocks.length ≤ k) : fillB blocks L (k + 1) = fillB blocks L k ++ [zeros L] := by
  have e : k + 1 - blocks.length = (k - blocks.length) + 1 := by omega
  unfold fillB; rw [e, List.replicate_succ', List.append_assoc]
theorem fillB_rect (blocks : List (List UInt8)) (L k : Nat) (hr : Rect blocks L) (h : blocks.length ≤ k) : Rect (fillB blocks L k) L := by
  intro i hi
  rw [fillB_length _ _ _ h] at hi
  by_cases hb : i < blocks.length
  · rw [show gR (fillB blocks L k) i = gR blocks i from gR_append_left hb]; exact hr i hb
  · have hl : i < (fillB blocks L k).length := by rw [fillB_length _ _ _ h]; exact hi
    rw [gR_eq hl]
    simp only [fillB]
    rw [List.getElem_append_right (by omega), List.getElem_replicate, zeros_length]

/-- All pieces of blocks. -/
def encM (d t : Nat) (blocks : List (List UInt8)) (L : Nat) : List (List UInt8) := cmat (ofM d (List.range t)) (fillB blocks L d) L t 0

theorem ints_snoc (k : Nat) : ints (List.range (k + 1)) = ints (List.range k) ++ [(k : Int)] := by simp [ints, List.range_succ]
theorem IS.of_own {w : World} {base : Nat} {v : Value} {n : Nat} {z : List Int} (h : w.ownsRow base 3 1 v n (z.map (Value.int .i64))) (hn : n * 8 ≤ lim) : ∃ A c, v = .slice A n c ∧ IS w A n c z := by
  have hl : z.length = n := by have := h.1; simpa using this
  rcases h.2 with ⟨rfl, rfl⟩ | ⟨g, cap, cur, rfl, _, hh, hnc, _, hsz, htk⟩
  · exact ⟨none, 0, rfl, hl, Nat.le_refl _, hn, fun k hk => absurd hk (by omega)⟩
  · refine ⟨some ⟨g, 0, none⟩, cap, rfl, hl, hnc, hn, fun k hk => ⟨g, 0, rfl, ?_⟩⟩
    have hkl : k < z.length := by omega
    show _ = some (Value.int .i64 (gI z k))
    rw [Nat.zero_add, h.cellAt k (by omega), gI_eq hkl]
    simp [List.getElem?_eq_getElem hkl]

def EncI (blocks : List (List UInt8)) (L k : Nat) (v : Value) (w wr : World) : Prop := OwnM wr w.heap.size v k (fillB blocks L k) ∧ Below w.heap.size w wr ∧ (∃ A c, v = .slice A k c)

set_option maxHeartbeats 4000000 in
theorem encode_ok (d t n c : Nat) (A : Option Addr) (blocks : List (List UInt8)) (L : Nat) (w : World) (hd : 1 ≤ d) (hd8 : d ≤ 8) (hdt : d ≤ t) (ht : t ≤ 16) (h : MS w A n c blocks) (hn : 0 < n) (hnd : n ≤ d) (hone : oneB blocks = true) (hL : (gR blocks 0).length = L) :
    Calls Try.prog 16 #[.int .i64 (d : Int), .int .i64 (t : Int), .slice A n c] w (Rets0 (NewM 22 (encM d t blocks L)) w) := by
  have hv : vldB d t = true := vld_iff.2 (by omega)
  have q1 : ((n : Int) == 0) = false := by simp; omega
  have q2 : decide ((d : Int) < (n : Int)) = false := by simp; omega
  have HL1 := Lib.hid h.1
  have hrect : Rect blocks L := fun i hi => by rw [(oneB_spec hone i hi).2.2, hL]
  have hLpos : 0 < L := by
    have := (oneB_spec hone 0 (by rw [h.1]; exact hn)).1
    omega
  have hL6 : L ≤ 65536 := by
    have := (oneB_spec hone 0 (by rw [h.1]; exact hn)).2.1
    omega
  have hmk := make_bytes L (by omega)
  have HV := Lib.hid hv
  have HONE := Lib.hid hone
  have HLL := Lib.hid hL
  clear hv hone hL
  go_enter Try.func16, Try.ntmps16
  go_wp2_with fail
  refine (rsvalid_any _ _ _).mono ?_
  rintro e w' ⟨rfl, rfl⟩
  rw [HV.out]
  go_wp2_with fail
  refine (oneLength_any A n c blocks _ h).mono ?_
  rintro e w' ⟨rfl, rfl⟩
  rw [HONE.out]
  go_wp2_with fail
  refine (clone_rows A n c blocks w h hn (fun j hj => (oneB_spec HONE.out j (by rw [HL1.out]; exact hj)).1)).mono ?_
  rintro e w1 ⟨v1, rfl, ho1, hb1⟩
  obtain ⟨A1, c1, rfl, _⟩ := ho1.ms (by unfold lim; omega)
  have HI : Hid (EncI blocks L n (.slice A1 n c1) w w1) := Lib.hid ⟨by rw [← HL1.out, fillB_start]; rw [← HL1.out] at ho1; exact ho1, hb1, A1, c1, rfl⟩
  clear ho1 hb1
  go_wp2_with fail
  go_loopw [8] (fun v wr => ∃ k : Nat, n ≤ k ∧ k ≤ d ∧ EncI blocks L k v w wr) (fun v _ => d - lenOf v)
  case atStart => exact ⟨n, Nat.le_refl _, hnd, HI.out⟩
  case round =>
    obtain ⟨k, hk1, hk, ho, hb, Av, cv, rfl⟩ := hrel
    by_cases hlt : k < d
    · obtain ⟨g, o, A2, n2, c2, rfl, hca0, hra⟩ := h.at_ (Below.refl _ _) hn
      obtain rfl : n2 = L := by rw [← hra.1, HLL.out]
      rw [Nat.add_zero] at hca0
      have hca := cell_kept hb hca0
      obtain ⟨hm, ps, hown, hps⟩ := ho
      have hbM : Below wr.heap.size wr (wr.alloc (.cells (row (zeros n2)) 5)) := (Below.refl _ _).alloc (Nat.le_refl _) _
      have hbM2 : Below wr.heap.size wr ((wr.alloc (.cells (row (zeros n2)) 5)).alloc (.cells #[.slice (some ⟨wr.heap.size, 0, none⟩) n2 n2] 22)) := hbM.alloc (by simp) _
      have HOW := Lib.hid (Kp.own (S := fun _ => False) (Kp.of_below hbM2) hown (fun _ _ => id))
      have HBM2 := Lib.hid hbM2
      have HB := Lib.hid hb
      have HM := Lib.hid hm
      have HPS := Lib.hid hps
      have HOWN := Lib.hid hown
      clear hb hm hps hown hra hca0 hbM hbM2 HI
      go_wp2_with (first
        | (at_builtin; refine wpList_app1 _ rfl (.tmp 37) (.tmp 43) 30 22 (.slice none 0 0) 24 Try.underlying30 infoBytes rfl rfl w.heap.size (.slice Av k cv) k ps rfl HOW.out (wr.heap.size + 1) 1 22 (.slice (some ⟨wr.heap.size, 0, none⟩) n2 n2) rfl (Blk.new1 wr (.cells (row (zeros n2)) 5) _ _) rfl (by omega) (by omega) (Nat.le_trans HB.out.size HBM2.out.size) ?_; intro v4 w4 hp4))
      have HR : Hid (EncI blocks n2 (k + 1) v4 w w4) := by
        have hpl : ps.length = k := by have := HOWN.out.1; simpa using this
        have hz : BS ((wr.alloc (.cells (row (zeros n2)) 5)).alloc (.cells #[.slice (some ⟨wr.heap.size, 0, none⟩) n2 n2] 22)) (some ⟨wr.heap.size, 0, none⟩) n2 n2 (zeros n2) :=
          BS.of_blk ((Blk.new wr _ _).alloc _) (zeros_length n2) (by unfold lim; omega)
        have h5 := OwnM.push (Nat.le_trans HB.out.size HBM2.out.size) HM.out (fun j hj => by
          obtain ⟨A', k', c', p1, p2, p3, p4⟩ := HPS.out j hj
          exact ⟨A', k', c', p1, p2.kept HBM2.out, p3, p4⟩) hpl hz hLpos (fun g' o' e e' => by
            injection e with e
            injection e with e
            have := HOWN.out.lt g' e'
            omega) hp4
        rw [← fillB_succ _ _ _ (by rw [HL1.out]; exact hk1)] at h5
        obtain ⟨A5, c5, e5, _⟩ := h5.ms (by unfold lim; omega)
        exact Lib.hid ⟨h5, (below_thenB HB.out HB.out.size HBM2.out).grown hp4.2.1 (Nat.le_trans HB.out.size HBM2.out.size) (fun b hb' => own_base HOWN.out b hb'), A5, c5, e5⟩
      clear hp4
      go_roundw
      case rel => exact ⟨k + 1, by omega, by omega, HR.out⟩
      case measure =>
        obtain ⟨_, _, A5, c5, rfl⟩ := HR.out
        simp [lenOf]; omega
    · obtain rfl : k = d := by omega
      have HO := Lib.hid ho
      have HB := Lib.hid hb
      clear ho hb HI hmk
      have hbt : (t : Int) ≤ 16 := by omega
      go_wp2_with fail
      obtain ⟨wo, rfl⟩ : ∃ wo : World, wo = wr := ⟨_, rfl⟩
      go_loopw [9, 46] (fun v i wr => ∃ j : Nat, j ≤ t ∧ i = .int .i64 (j : Int) ∧ wr.ownsRow wo.heap.size 3 1 v j ((ints (List.range j)).map (Value.int .i64)) ∧ Below wo.heap.size wo wr) (fun _ i _ => t - (intOf i).toNat)
      case atStart => exact ⟨0, by omega, rfl, World.ownsRow_nil _ _ _ _, Below.refl _ _⟩
      case round =>
        obtain ⟨j, hj, rfl, hown, hb⟩ := hrel
        by_cases hlt2 : j < t
        · have hbA : Below wr.heap.size wr (wr.alloc (.cells #[.int .i64 (j : Int)] 3)) := (Below.refl _ _).alloc (Nat.le_refl _) _
          have HOW := Lib.hid (Kp.own (S := fun _ => False) (Kp.of_below hbA) hown (fun _ _ => id))
          have HOWN := Lib.hid hown
          have HB2 := Lib.hid hb
          have HBA := Lib.hid hbA
          clear hown hb hbA
          go_wp2_with (first
            | (at_builtin; refine wpList_app1 _ rfl (.tmp 49) (.tmp 51) 37 3 (.int .i64 0) 8 Try.underlying37 infoInt rfl rfl wo.heap.size _ j ((ints (List.range j)).map (Value.int .i64)) rfl HOW.out wr.heap.size 1 3 (.int .i64 (j : Int)) rfl (Blk.new wr _ _) rfl (by omega) (by omega) (Nat.le_trans HB2.out.size HBA.out.size) ?_; intro v4 w4 hp4))
          have HR : Hid (w4.ownsRow wo.heap.size 3 1 v4 (j + 1) ((ints (List.range (j + 1))).map (Value.int .i64)) ∧ Below wo.heap.size wo w4) := by
            have h6 := hp4.1
            refine Lib.hid ⟨?_, (below_thenB HB2.out HB2.out.size HBA.out).grown hp4.2.1 (Nat.le_trans HB2.out.size HBA.out.size) (fun b hb' => own_base HOWN.out b hb')⟩
            rw [ints_snoc, List.map_append]
            exact h6
          clear hp4
          go_roundw
          case rel => exact ⟨j + 1, by omega, by go_num, HR.out⟩
          case measure => simp [intOf]; omega
        · obtain rfl : j = t := by omega
          obtain ⟨A6, c6, rfl, hIS⟩ := IS.of_own hown (by unfold lim; omega)
          have HIS := Lib.hid hIS
          have HB2 := Lib.hid hb
          clear hown hb hIS
          go_wp2_with fail
          refine (newTable_any k _ hd8).mono ?_
          rintro e w7 ⟨rfl, htab, hb7⟩
          go_wp2_with fail
          have hzr : ∀ i, i < j → gN (List.range j) i < 16 := fun i hi => by
            rw [gN_eq (by simpa using hi)]; simp; omega
          refine (of_any wr.heap.size k A6 j c6 (List.range j) w7 htab hd8 (HIS.out.kept hb7) hzr (by omega)).mono ?_
          rintro e w8 ⟨v8, rfl, hv8⟩
          obtain ⟨g8, n8, rfl, hn8, hms8, hb8⟩ := hv8.ms (by rw [ofM_length, List.length_range]; unfold lim; omega)
          obtain rfl : n8 = j := by rw [← hn8, ofM_length, List.length_range]
          obtain ⟨A9, c9, e9, hms9⟩ := ((HO.out.kept HB2.out).kept hb7).kept hb8 |>.ms (by unfold lim; omega)
          injection e9 with e91 _ e93
          subst e91 e93
          clear hv8 hn8
          go_wp2_with fail
          refine (apply_any _ _ n8 k n8 cv (ofM k (List.range n8)) (fillB blocks L k) L w8 hms8 hms9 (ofM_rect _ _) (fillB_rect _ _ _ hrect (by rw [HL1.out]; exact hnd)) (by omega) (by omega) (by omega) (by omega) (by omega)).mono ?_
          rintro e w9 ⟨v9, rfl, g9, cs9, n9, rfl, hn9, hg9, hr9, hb9⟩
          have HR : Hid (NewM 22 (encM k n8 blocks L) w (.slice (some ⟨g9, 0, none⟩) n9 n9) w9) :=
            Lib.hid ⟨g9, cs9, n9, rfl, hn9, Nat.le_trans HB.out.size (Nat.le_trans HB2.out.size (Nat.le_trans hb7.size (Nat.le_trans hb8.size hg9))), hr9, below_then (below_then (below_then (below_then HB.out HB2.out) hb7) hb8) hb9⟩
          clear hms8 hms9 hn9 hr9 hb9 hb8 hb7 htab
          go_wp2_with fail
          go_ret2
          exact ⟨_, rfl, HR.out⟩
end Go.Proofs.Ytoeeklkebcgmaaa
