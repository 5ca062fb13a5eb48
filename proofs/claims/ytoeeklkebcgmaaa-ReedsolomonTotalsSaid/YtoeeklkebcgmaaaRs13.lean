/- Contracts of package reedsolomon: fits. -/
import Derived.Test.YtoeeklkebcgmaaaRs12
namespace Go.Proofs.Ytoeeklkebcgmaaa
open Go.RowKit Gf

attribute [local go_sem] Gf.xor_bits Gf.and_bits Gf.or_bits Gf.ne_zero_iff Gf.eq_zero_iff Gf.eq_one_iff Gf.beq_bytes Gf.bne_bytes Gf.bv_toNat

/-- What fits adds up at a place. -/
def sumA (m : List (List UInt8)) (f : List UInt8) (p : Nat) (s : UInt8) : Nat → UInt8
  | 0 => s
  | j + 1 => sumA m f p s j ^^^ mul (gB f j) (gB (gR m j) p)
def fit1 (m F : List (List UInt8)) (d p i : Nat) : Bool := sumA m (gR F i) p (gB (gR m (d + i)) p) d == 0
def fitP (m F : List (List UInt8)) (d k p : Nat) : Bool := (List.range k).all (fit1 m F d p)
def fitB (m F : List (List UInt8)) (d k : Nat) (ps : List Nat) : Bool := ps.all (fitP m F d k)
theorem fitP_true {m F : List (List UInt8)} {d k p : Nat} (h : ∀ i, i < k → fit1 m F d p i = true) : fitP m F d k p = true := by
  simp only [fitP, List.all_eq_true, List.mem_range]; exact h
theorem fitP_false {m F : List (List UInt8)} {d k p i : Nat} (hi : i < k) (h : fit1 m F d p i = false) : fitP m F d k p = false := by
  rw [Bool.eq_false_iff]; intro h'; simp only [fitP, List.all_eq_true, List.mem_range] at h'; rw [h' i hi] at h; cases h
theorem fitB_true {m F : List (List UInt8)} {d k : Nat} {ps : List Nat} (h : ∀ i, i < ps.length → fitP m F d k (gN ps i) = true) : fitB m F d k ps = true := by
  simp only [fitB, List.all_eq_true]; intro p hp
  obtain ⟨i, hi, rfl⟩ := List.getElem_of_mem hp
  have := h i hi; rwa [gN_eq hi] at this
theorem fitB_false {m F : List (List UInt8)} {d k : Nat} {ps : List Nat} {i : Nat} (hi : i < ps.length) (h : fitP m F d k (gN ps i) = false) : fitB m F d k ps = false := by
  rw [Bool.eq_false_iff]; intro h'; simp only [fitB, List.all_eq_true] at h'; rw [gN_eq hi, h' _ (List.getElem_mem hi)] at h; cases h

set_option maxHeartbeats 4000000 in
theorem fits_any (A A' A'' : Option Addr) (n c k c' r c'' : Nat) (m F : List (List UInt8)) (ps : List Nat) (d L : Nat) (w : World) (h : MS w A n c m) (h' : MS w A' k c' F) (h'' : IS w A'' r c'' (ints ps)) (hr : Rect m L) (hL : L ≤ 65536) (hF : Rect F d) (hd : 0 < d) (hd8 : d ≤ 64) (hnk : d + k ≤ n) (hn64 : n ≤ 64) (hps : ∀ i, i < r → gN ps i < L) :
    Calls Try.prog 42 #[.slice A n c, .slice A' k c', .slice A'' r c''] w fun e w' => e = .returned (.bool (fitB m F d k ps)) ∧ Below w.heap.size w w' := by
  have HLm := Lib.hid h.1
  have HLF := Lib.hid h'.1
  have HLP : Hid (ps.length = r) := Lib.hid (by rw [← ints_length, h''.1])
  have HM := Lib.hid h
  have HF' := Lib.hid h'
  have HPI := Lib.hid h''
  have hnn : 0 < n := by omega
  have hrl := h''.len_le
  clear h h' h''
  go_enter Try.func42, Try.ntmps42
  go_wp2_with fail
  go_loopw [16] (fun i wr => ∃ j : Nat, j ≤ r ∧ i = .int .i64 (j : Int) ∧ Hid (∀ q, q < j → fitP m F d k (gN ps q) = true) ∧ Hid (Below w.heap.size w wr) ∧ Hid (Blk wr w.heap.size 30 #[.slice A n c])) (fun i _ => r - (intOf i).toNat)
  case atStart =>
    exact ⟨0, by omega, rfl, Lib.hid (fun q hq => absurd hq (by omega)), Lib.hid ((Below.refl _ _).alloc (Nat.le_refl _) _), Lib.hid (Blk.new w _ _)⟩
  case round =>
    obtain ⟨j, hj, rfl, hfit, hb, hbk⟩ := hrel
    by_cases hlt : j < r
    · obtain ⟨g, o, rfl, hc1⟩ := HPI.out.nat hb.out hlt
      obtain ⟨p, hp⟩ : ∃ p, p = gN ps j := ⟨_, rfl⟩
      rw [← hp] at hc1
      have hpL : p < L := by rw [hp]; exact hps j hlt
      have HPJ := Lib.hid hp
      clear hp
      go_wp2_with fail
      obtain ⟨gl, hgl⟩ : ∃ gl, gl = wr.heap.size := ⟨_, rfl⟩
      have HB0 : Hid (Below w.heap.size w (wr.alloc (.cells #[.int .i64 (p : Int)] 3))) := Lib.hid (hb.out.alloc hb.out.size _)
      have HK0 : Hid (Blk (wr.alloc (.cells #[.int .i64 (p : Int)] 3)) w.heap.size 30 #[.slice A n c]) := Lib.hid (hbk.out.alloc _)
      have HG0 : Hid (Blk (wr.alloc (.cells #[.int .i64 (p : Int)] 3)) gl 3 #[.int .i64 (p : Int)]) := Lib.hid (by rw [hgl]; exact Blk.new wr _ _)
      rw [← hgl]
      have HGL : Hid (w.heap.size ≤ gl) := Lib.hid (by rw [hgl]; exact hb.out.size)
      clear hb hbk hc1 hgl
      obtain ⟨wo, hwo⟩ : ∃ wo, wo = wr.alloc (.cells #[.int .i64 (p : Int)] 3) := ⟨_, rfl⟩
      rw [← hwo] at HB0 HK0 HG0 ⊢
      clear hwo wr
      go_loopw [22] (fun i wr => ∃ q : Nat, q ≤ k ∧ i = .int .i64 (q : Int) ∧ Hid (∀ i, i < q → fit1 m F d p i = true) ∧ Hid (Below w.heap.size w wr) ∧ Hid (Blk wr w.heap.size 30 #[.slice A n c]) ∧ Hid (Blk wr gl 3 #[.int .i64 (p : Int)])) (fun i _ => k - (intOf i).toNat)
      case atStart => exact ⟨0, by omega, rfl, Lib.hid (fun q hq => absurd hq (by omega)), HB0, HK0, HG0⟩
      case round =>
        obtain ⟨q, hq, rfl, hfq, hb, hbk, hbl⟩ := hrel
        by_cases hlq : q < k
        · obtain ⟨g1, o1, A1, n1, c1, rfl, hc1, hr1⟩ := HF'.out.at_ hb.out hlq
          obtain rfl : n1 = d := by rw [← hr1.1]; exact hF q (by rw [HLF.out]; exact hlq)
          obtain ⟨s, hs⟩ : ∃ s, s = n1 + q := ⟨_, rfl⟩
          obtain ⟨g2, o2, A2, n2, c2, rfl, hc2, hr2⟩ := HM.out.at_ hb.out (show s < n by omega)
          obtain rfl : n2 = L := by rw [← hr2.1]; exact hr s (by rw [HLm.out]; omega)
          obtain ⟨g3, o3, rfl, hc3⟩ := hr2.at_ (Below.refl _ _) hpL
          obtain ⟨g4, o4, rfl, _⟩ := hr1.at_ (Below.refl _ _) hd
          have hk0 : wr.cell? ⟨w.heap.size, 0, none⟩ = some (.slice (some ⟨g2, o2, none⟩) n c) := by rw [hbk.out.cell]; rfl
          have hl0 : wr.cell? ⟨gl, 0, none⟩ = some (.int .i64 (p : Int)) := by rw [hbl.out.cell]; rfl
          have hw : IntKind.i64.wrap ((n1 : Int) + (q : Int)) = (s : Int) := by rw [IntKind.wrap_i64]; omega
          have hsn : (s : Int) < (n : Int) := by omega
          have HR1 := Lib.hid hr1
          have HS := Lib.hid hs
          clear hr1 hr2 hs
          go_wp2_with fail
          obtain ⟨gf, hgf⟩ : ∃ gf, gf = wr.heap.size := ⟨_, rfl⟩
          obtain ⟨w5, hw5⟩ : ∃ w5, w5 = wr.alloc (.cells #[.slice (some ⟨g4, o4, none⟩) n1 c1] 22) := ⟨_, rfl⟩
          have hb5 : Below wr.heap.size wr w5 := by rw [hw5]; exact (Below.refl _ _).alloc (Nat.le_refl _) _
          have hf5 : Blk w5 gf 22 #[.slice (some ⟨g4, o4, none⟩) n1 c1] := by rw [hw5, hgf]; exact Blk.new wr _ _
          have k0 := cell_kept hb5 hk0
          have k1 : w5.cell? ⟨gf, 0, none⟩ = some (.slice (some ⟨g4, o4, none⟩) n1 c1) := by rw [hf5.cell]; rfl
          have k2 := cell_kept hb5 hc2
          have k3 := cell_kept hb5 hl0
          have k4 := cell_kept hb5 hc3
          have hs5 : w5.heap.size = gf + 1 := by rw [hw5, hgf]; simp
          rw [← hw5, ← hgf]
          have HB5 : Hid (Below w.heap.size w w5) := Lib.hid (below_then hb.out hb5)
          have HK5 : Hid (Blk w5 w.heap.size 30 #[.slice (some ⟨g2, o2, none⟩) n c]) := Lib.hid (hbk.out.kept hb5)
          have HL5 : Hid (Blk w5 gl 3 #[.int .i64 (p : Int)]) := Lib.hid (hbl.out.kept hb5)
          have HR5 : Hid (BS w5 (some ⟨g4, o4, none⟩) n1 c1 (gR F q)) := Lib.hid (HR1.out.kept hb5)
          have HF5 := Lib.hid hf5
          have HS5 := Lib.hid hs5
          clear hb hbk hbl hb5 hf5 hk0 hc2 hl0 hc3 hc1 hw5 hgf HR1 hs5
          refine Text.wp_region_text (fun w' => w'.cell? ⟨w.heap.size, 0, none⟩ = some (.slice (some ⟨g2, o2, none⟩) n c) ∧ w'.cell? ⟨gf, 0, none⟩ = some (.slice (some ⟨g4, o4, none⟩) n1 c1) ∧ w'.cell? ⟨g2, o2 + s, none⟩ = some (.slice (some ⟨g3, o3, none⟩) n2 c2) ∧ w'.cell? ⟨gl, 0, none⟩ = some (.int .i64 (p : Int)) ∧ w'.cell? ⟨g3, o3 + p, none⟩ = some (B (gB (gR m s) p))) [(3, 4), (0, 0), (1, 0), (2, 4), (4, 4), (5, 4), (6, 0), (7, 0), (8, 4), (9, 0), (10, 2), (11, 3)] (by kernel_rfl) (by kernel_rfl) (fun _ _ _ _ _ h => h) (⟨k0, k1, k2, k3, k4⟩) ?_
          (refine Text.purek rfl rfl (fun K hK => ⟨_, fun w' => by go_simp <;> rfl, ?_⟩); go_simp; refine hK _ ?_; clear hK K)
          iterate 2 (refine Text.heldk rfl rfl (fun K hK => ⟨_, fun w' hw' => by go_simp <;> rfl, ?_⟩); go_simp; refine hK _ ?_; clear hK K)
          iterate 3 (refine Text.purek rfl rfl (fun K hK => ⟨_, fun w' => by go_simp <;> rfl, ?_⟩); go_simp; refine hK _ ?_; clear hK K)
          iterate 2 (refine Text.heldk rfl rfl (fun K hK => ⟨_, fun w' hw' => by go_simp <;> rfl, ?_⟩); go_simp; refine hK _ ?_; clear hK K)
          (refine Text.purek rfl rfl (fun K hK => ⟨_, fun w' => by go_simp <;> rfl, ?_⟩); go_simp; refine hK _ ?_; clear hK K)
          (refine Text.heldk rfl rfl (fun K hK => ⟨_, fun w' hw' => by go_simp <;> rfl, ?_⟩); go_simp; refine hK _ ?_; clear hK K)
          refine Text.eff rfl rfl (fun K hK => ?_)
          go_simp
          obtain ⟨gs, hgs⟩ : ∃ gs, gs = w5.heap.size := ⟨_, rfl⟩
          obtain ⟨wA, hwA⟩ : ∃ wA, wA = (w5.alloc (.cells #[.int .u8 0] 5)).drew := ⟨_, rfl⟩
          have hbA : Below w5.heap.size w5 wA := by rw [hwA]; exact ((Below.refl _ _).alloc (Nat.le_refl _) _).drew
          have hfA : Blk wA gs 5 #[B 0] := by rw [hwA, hgs]; exact Blk.new w5 _ _
          rw [← hwA, ← hgs]
          refine hK _ _ ⟨cell_kept hbA k0, cell_kept hbA k1, cell_kept hbA k2, cell_kept hbA k3, cell_kept hbA k4⟩ ?_
          clear hK K
          have ks : wA.cell? ⟨gs, 0, none⟩ = some (B 0) := by rw [hfA.cell]; rfl
          have kz := hfA.frozen 0
          have hneq : gs = w5.heap.size := hgs
          have HGS := Lib.hid hneq
          have HBA := Lib.hid hbA
          have HFA := Lib.hid hfA
          clear hwA hgs hneq hbA hfA
          refine Text.last rfl rfl (fun K hK => ?_)
          go_simp
          refine hK _ _ ?_
          clear hK K
          refine Text.done ?_
          obtain ⟨wB, hwB⟩ : ∃ wB, wB = wA.setCell ⟨gs, 0, none⟩ (B (gB (gR m s) p)) := ⟨_, rfl⟩
          have hbB : Below w5.heap.size w5 wB := by rw [hwB]; exact HBA.out.setCell (by rw [HGS.out]; exact Nat.le_refl _) _
          have hfB : Blk wB gs 5 #[B (gB (gR m s) p)] := by rw [hwB]; exact HFA.out.set_ 0 _
          have k1 := cell_kept hbB k1
          have HBB := Lib.hid hbB
          have HFB := Lib.hid hfB
          rw [← hwB]
          clear hwB hbB hfB ks kz HBA HFA
          go_wp2_with fail
          go_loopw [40] (fun i wr => ∃ y : Nat, y ≤ n1 ∧ i = .int .i64 (y : Int) ∧ Hid (Below w5.heap.size w5 wr) ∧ Hid (Blk wr gs 5 #[B (sumA m (gR F q) p (gB (gR m s) p) y)])) (fun i _ => n1 - (intOf i).toNat)
          case atStart => exact ⟨0, by omega, rfl, HBB, HFB⟩
          case round =>
            obtain ⟨y, hy, rfl, hb7, hf7⟩ := hrel
            by_cases hly : y < n1
            · obtain ⟨g6, o6, A6, n6, c6, e6, hc6, hr6⟩ := HM.out.at_ (below_then HB5.out hb7.out) (show y < n by omega)
              injection e6 with e6
              injection e6 with e61 e62
              subst e61 e62
              obtain rfl : n6 = n2 := by rw [← hr6.1]; exact hr y (by rw [HLm.out]; omega)
              obtain ⟨g8, o8, rfl, hc8⟩ := hr6.at_ (Below.refl _ _) hpL
              obtain ⟨g9, o9, e9, hc9⟩ := HR5.out.at_ hb7.out hly
              injection e9 with e9
              injection e9 with e91 e92
              subst e91 e92
              obtain ⟨s7, hs7⟩ : ∃ s7, s7 = sumA m (gR F q) p (gB (gR m s) p) y := ⟨_, rfl⟩
              rw [← hs7] at hf7
              have x1 : wr.cell? ⟨gs, 0, none⟩ = some (B s7) := by rw [hf7.out.cell]; rfl
              have x2 := hf7.out.frozen 0
              have x3 : wr.cell? ⟨gf, 0, none⟩ = some (.slice (some ⟨g4, o4, none⟩) n1 c1) := by rw [(HF5.out.kept hb7.out).cell]; rfl
              have x4 : wr.cell? ⟨w.heap.size, 0, none⟩ = some (.slice (some ⟨g2, o2, none⟩) n c) := by rw [(HK5.out.kept hb7.out).cell]; rfl
              have x5 : wr.cell? ⟨gl, 0, none⟩ = some (.int .i64 (p : Int)) := by rw [(HL5.out.kept hb7.out).cell]; rfl
              have HC := Lib.hid (fits1_any gs gf w.heap.size gl s7 (gB (gR F q) y) (gB (gR m y) p) y p g4 o4 n1 c1 g2 o2 n c g8 o8 n6 c6 wr x1 x2 x3 hc9 x4 hc6 x5 hc8 hly (by omega) hpL)
              have HS7 : Hid (s7 ^^^ mul (gB (gR F q) y) (gB (gR m y) p) = sumA m (gR F q) p (gB (gR m s) p) (y + 1)) := Lib.hid (by rw [hs7]; rfl)
              clear hr6 hc6 hc8 hc9 x1 x2 x3 x4 x5 hs7
              go_wp2_with fail
              refine HC.out.mono ?_
              rintro e w8 ⟨rfl, rfl⟩
              have HB8 : Hid (Below w5.heap.size w5 (wr.setCell ⟨gs, 0, none⟩ (B (s7 ^^^ mul (gB (gR F q) y) (gB (gR m y) p)))).drew) := Lib.hid ((hb7.out.setCell (by rw [HGS.out]; exact Nat.le_refl _) _).drew)
              have HF8 : Hid (Blk (wr.setCell ⟨gs, 0, none⟩ (B (s7 ^^^ mul (gB (gR F q) y) (gB (gR m y) p)))).drew gs 5 #[B (s7 ^^^ mul (gB (gR F q) y) (gB (gR m y) p))]) := Lib.hid (hf7.out.set_ 0 _).drew
              clear HC hb7 hf7
              go_wp2_with fail
              go_roundw
              case rel => exact ⟨y + 1, by omega, by go_num, HB8, Lib.hid (by rw [← HS7.out]; exact HF8.out)⟩
              case measure => simp [intOf]; omega
            · obtain rfl : y = n1 := by omega
              obtain ⟨s7, hs7⟩ : ∃ s7, s7 = sumA m (gR F q) p (gB (gR m s) p) y := ⟨_, rfl⟩
              rw [← hs7] at hf7
              have x1 : wr.cell? ⟨gs, 0, none⟩ = some (B s7) := by rw [hf7.out.cell]; rfl
              have HF1 : Hid ((s7 == 0) = fit1 m F y p q) := Lib.hid (by rw [fit1, ← HS.out, ← hs7])
              clear hs7
              cases hz : s7 == 0 with
              | true =>
                have hz' : (s7 != 0) = false := by rw [bne, hz]; rfl
                have HF2 : Hid (fit1 m F y p q = true) := Lib.hid (by rw [← HF1.out, hz])
                have HB9 : Hid (Below w.heap.size w wr) := Lib.hid (below_then HB5.out hb7.out)
                have HK9 := Lib.hid (HK5.out.kept hb7.out)
                have HL9 := Lib.hid (HL5.out.kept hb7.out)
                clear hz
                go_wp2_with fail
                go_roundw
                case rel =>
                  refine ⟨q + 1, by omega, by go_num, Lib.hid (fun i hi => ?_), HB9, HK9, HL9⟩
                  by_cases e : i = q
                  · rw [e]; exact HF2.out
                  · exact hfq.out i (by omega)
                case measure => simp [intOf]; omega
              | false =>
                have hz' : (s7 != 0) = true := by rw [bne, hz]; rfl
                have HF2 : Hid (fit1 m F y p q = false) := Lib.hid (by rw [← HF1.out, hz])
                have HB9 : Hid (Below w.heap.size w wr) := Lib.hid (below_then HB5.out hb7.out)
                have HR : Hid (false = fitB m F y k ps) := Lib.hid (fitB_false (i := j) (by rw [HLP.out]; exact hlt) (by rw [← HPJ.out]; exact fitP_false hlq HF2.out)).symm
                clear hz
                go_wp2_with fail
                go_ret
                exact ⟨ret_bool HR.out, HB9.out⟩
        · obtain rfl : q = k := by omega
          have HN : Hid (fitP m F d q p = true) := Lib.hid (fitP_true hfq.out)
          have HFQ : Hid (∀ i, i < j + 1 → fitP m F d q (gN ps i) = true) := Lib.hid (fun i hi => by
            by_cases e : i = j
            · rw [e, ← HPJ.out]; exact HN.out
            · exact hfit.out i (by omega))
          go_wp2_with fail
          go_roundw
          case rel => exact ⟨j + 1, by omega, by go_num, HFQ, hb, hbk⟩
          case measure => simp [intOf]; omega
    · obtain rfl : j = r := by omega
      have HR : Hid (true = fitB m F d k ps) := Lib.hid (fitB_true (fun i hi => hfit.out i (by rw [HLP.out] at hi; exact hi))).symm
      go_wp2_with fail
      go_ret
      exact ⟨ret_bool HR.out, hb.out⟩
end Go.Proofs.Ytoeeklkebcgmaaa
