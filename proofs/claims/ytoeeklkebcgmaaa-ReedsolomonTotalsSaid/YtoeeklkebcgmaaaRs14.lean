/- Contracts of package reedsolomon: differing. -/
import Derived.Test.YtoeeklkebcgmaaaSort
namespace Go.Proofs.Ytoeeklkebcgmaaa
open Go.RowKit Gf

attribute [local go_sem] Gf.xor_bits Gf.and_bits Gf.or_bits Gf.ne_zero_iff Gf.eq_zero_iff Gf.eq_one_iff Gf.beq_bytes Gf.bne_bytes Gf.bv_toNat

/-- The indices of those of the first j other pieces that are not the sums. -/
def difs (m F : List (List UInt8)) (o : List Nat) (op : List (List UInt8)) (L : Nat) : Nat → List Nat
  | 0 => []
  | j + 1 => if prd m (gR F j) L = gR op j then difs m F o op L j else difs m F o op L j ++ [gN o j]
theorem difs_length (m F : List (List UInt8)) (o : List Nat) (op : List (List UInt8)) (L : Nat) : ∀ j, (difs m F o op L j).length ≤ j
  | 0 => by simp [difs]
  | j + 1 => by
    have := difs_length m F o op L j
    simp only [difs]
    split
    · omega
    · simp; omega
theorem ints_append (z : List Nat) (i : Nat) : ints (z ++ [i]) = ints z ++ [(i : Int)] := by simp [ints]
theorem ints_map_append (z : List Nat) (i : Nat) : (ints (z ++ [i])).map (Value.int .i64) = (ints z).map (Value.int .i64) ++ [.int .i64 (i : Int)] := by rw [ints_append, List.map_append]; rfl

set_option maxHeartbeats 4000000 in
theorem differing_any (A A' Ao Ap : Option Addr) (n c k c' co cp : Nat) (m F : List (List UInt8)) (o : List Nat) (op : List (List UInt8)) (d L : Nat) (w : World) (h : MS w A n c m) (h' : MS w A' k c' F) (ho : IS w Ao k co (ints o)) (hp : MS w Ap k cp op)
    (hr : Rect m L) (hL : L ≤ 65536) (hF : Rect F d) (hd : 0 < d) (hd8 : d ≤ 64) (hdn : d ≤ n) (hk64 : k ≤ 64) :
    Calls Try.prog 44 #[.slice A n c, .slice A' k c', .slice Ao k co, .slice Ap k cp] w fun e w' => ∃ v q, e = .returned v ∧ q = (difs m F o op L k).length ∧ w'.ownsRow w.heap.size 3 1 v q ((isort (ints (difs m F o op L k))).map (Value.int .i64)) ∧ Below w.heap.size w w' := by
  have HLF := Lib.hid h'.1
  have HM := Lib.hid h
  have HF' := Lib.hid h'
  have HO := Lib.hid ho
  have HP := Lib.hid hp
  clear h h' ho hp
  go_enter Try.func44, Try.ntmps44
  go_wp2_with fail
  go_loopw [9, 14] (fun v i wr => ∃ j : Nat, ∃ q : Nat, j ≤ k ∧ i = .int .i64 (j : Int) ∧ q ≤ j ∧ Hid (q = (difs m F o op L j).length) ∧ Hid (wr.ownsRow w.heap.size 3 1 v q ((ints (difs m F o op L j)).map (Value.int .i64))) ∧ Hid (Below w.heap.size w wr)) (fun _ i _ => k - (intOf i).toNat)
  case atStart => exact ⟨0, 0, by omega, rfl, by omega, Lib.hid rfl, Lib.hid (World.ownsRow_nil _ _ _ _), Lib.hid (Below.refl _ _)⟩
  case round =>
    obtain ⟨j, q, hj, rfl, hqj, hq, hown, hb⟩ := hrel
    by_cases hlt : j < k
    · obtain ⟨g, o1, A1, n1, c1, rfl, hc1, hr1⟩ := HF'.out.at_ hb.out hlt
      obtain rfl : n1 = d := by rw [← hr1.1]; exact hF j (by rw [HLF.out]; exact hlt)
      obtain ⟨g2, o2, A2, n2, c2, rfl, hc2, hr2⟩ := HP.out.at_ hb.out hlt
      obtain ⟨g3, o3, rfl, hc3⟩ := HO.out.nat hb.out hlt
      have HR1 := Lib.hid hr1
      have HR2 := Lib.hid hr2
      clear hr1 hr2
      go_wp2_with fail
      refine Text.wp_region_text (fun w' => w'.cell? ⟨g2, o2 + j, none⟩ = some (.slice A2 n2 c2)) [(0, 4), (1, 4), (3, 4), (4, 4), (5, 4), (6, 0), (2, 2), (7, 2), (8, 4)] (by kernel_rfl) (by kernel_rfl) (fun _ _ _ _ _ h => h) (hc2) ?_
      iterate 5 (refine Text.purek rfl rfl (fun K hK => ⟨_, fun w' => by go_simp <;> rfl, ?_⟩); go_simp; refine hK _ ?_; clear hK K)
      (refine Text.heldk rfl rfl (fun K hK => ⟨_, fun w' hw' => by go_simp <;> rfl, ?_⟩); go_simp; refine hK _ ?_; clear hK K)
      refine Text.eff rfl rfl (fun K hK => ?_)
      go_simp
      refine (predict_any _ A1 n c n1 c1 m (gR F j) L wr.drew (HM.out.kept (hb.out)).drew HR1.out.drew hr hL hd hd8 (by omega)).mono ?_
      rintro e w4 ⟨v4, rfl, A5, n5, c5, rfl, hbs5, hb5⟩
      have hb5' : Below wr.heap.size wr w4 := below_ofDrew hb5
      refine hK _ _ (cell_kept hb5' hc2) ?_
      have HB4 : Hid (Below w.heap.size w w4) := Lib.hid (below_then hb.out hb5')
      have HOW4 := Lib.hid (Kp.own (S := fun _ => False) (Kp.of_below hb5') hown.out (fun _ _ => id))
      have HS := Lib.hid hbs5
      have HP2 : Hid (BS w4 A2 n2 c2 (gR op j)) := Lib.hid (HR2.out.kept hb5')
      have hc3' := cell_kept hb5' hc3
      have hc2' := cell_kept hb5' hc2
      have HSZ : Hid (w.heap.size ≤ wr.heap.size) := Lib.hid hb.out.size
      clear hK K hb5 hb5' hbs5 HR1 HR2 hb hc1 hc2 hc3 hown
      refine Text.eff rfl rfl (fun K hK => ?_)
      go_simp
      refine (equal_any A5 A2 n5 c5 n2 c2 _ _ w4 HS.out HP2.out).mono ?_
      rintro e w5 ⟨rfl, rfl⟩
      refine hK _ _ hc2' ?_
      clear hK K HS HP2
      by_cases he : prd m (gR F j) L = gR op j
      · have hde : decide (prd m (gR F j) L = gR op j) = true := by simp [he]
        have HD : Hid (difs m F o op L (j + 1) = difs m F o op L j) := Lib.hid (by rw [difs, if_pos he])
        have HDE := Lib.hid hde
        clear he hde
        rw [HDE.out]
        (refine Text.purek rfl rfl (fun K hK => ⟨_, fun w' => by go_simp <;> rfl, ?_⟩); go_simp; refine hK _ ?_; clear hK K)
        refine Text.done ?_
        clear hc2' hc3'
        go_wp2_with fail
        go_roundw
        case rel => exact ⟨j + 1, q, by omega, by go_num, by omega, Lib.hid (by rw [HD.out]; exact hq.out), Lib.hid (by rw [HD.out]; exact HOW4.out), HB4⟩
        case measure => simp [intOf]; omega
      · have hde : decide (prd m (gR F j) L = gR op j) = false := by simp [he]
        have HD : Hid (difs m F o op L (j + 1) = difs m F o op L j ++ [gN o j]) := Lib.hid (by rw [difs, if_neg he])
        have HDE := Lib.hid hde
        clear he hde
        rw [HDE.out]
        (refine Text.purek rfl rfl (fun K hK => ⟨_, fun w' => by go_simp <;> rfl, ?_⟩); go_simp; refine hK _ ?_; clear hK K)
        refine Text.done ?_
        clear hc2'
        have hbA : Below w4.heap.size w4 (w4.alloc (.cells #[.int .i64 (gN o j : Int)] 3)) := (Below.refl _ _).alloc (Nat.le_refl _) _
        have HOW := Lib.hid (Kp.own (S := fun _ => False) (Kp.of_below hbA) HOW4.out (fun _ _ => id))
        have HBA := Lib.hid hbA
        have HSZ4 : Hid (w.heap.size ≤ w4.heap.size) := Lib.hid HB4.out.size
        clear hbA
        go_wp2_with (first
          | (at_builtin; refine wpList_app1 _ rfl (.tmp 28) (.tmp 33) 37 3 (.int .i64 0) 8 Try.underlying37 infoInt rfl rfl w.heap.size _ q ((ints (difs m F o op L j)).map (Value.int .i64)) rfl HOW.out w4.heap.size 1 3 (.int .i64 (gN o j : Int)) rfl (Blk.new w4 _ _) rfl (by omega) (by omega) (Nat.le_trans HSZ4.out HBA.out.size) ?_; intro v4 w6 hp4))
        have HR : Hid (w6.ownsRow w.heap.size 3 1 v4 (q + 1) ((ints (difs m F o op L (j + 1))).map (Value.int .i64)) ∧ Below w.heap.size w w6) := by
          refine Lib.hid ⟨?_, (below_thenB HB4.out HSZ4.out HBA.out).grown hp4.2.1 (Nat.le_trans HSZ4.out HBA.out.size) (fun b hb' => own_base HOW4.out b hb')⟩
          rw [HD.out, ints_map_append]
          exact hp4.1
        have HQ : Hid (q + 1 = (difs m F o op L (j + 1)).length) := Lib.hid (by rw [HD.out, List.length_append, ← hq.out]; rfl)
        clear hp4
        go_roundw
        case rel => exact ⟨j + 1, q + 1, by omega, by go_num, by omega, HQ, Lib.hid HR.out.1, Lib.hid HR.out.2⟩
        case measure => simp [intOf]; omega
    · obtain rfl : j = k := by omega
      go_wp2_with fail
      refine (sort_own w.heap.size u9 q _ wr hown.out (by omega)).mono ?_
      rintro e w4 ⟨rfl, hs4, hg4⟩
      have HB4 : Hid (Below w.heap.size w w4) := Lib.hid (hb.out.grown hg4 hb.out.size (fun b hb' => own_base hown.out b hb'))
      have HS4 := Lib.hid hs4
      clear hs4 hg4
      go_wp2_with fail
      go_ret
      exact ⟨u9, q, rfl, hq.out, HS4.out, HB4.out⟩
end Go.Proofs.Ytoeeklkebcgmaaa
