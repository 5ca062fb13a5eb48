/- Contract of the reference kinkeepref08.Wrong. -/
import Derived.Test.YtoeeklkebcgmaaaA4
import Derived.Test.YtoeeklkebcgmaaaA3
import Derived.Test.YtoeeklkebcgmaaaA2
namespace Go.Proofs.Ytoeeklkebcgmaaa
open Go.RowKit Gf

/-- Whether given piece k is piece i, and wrong. -/
def wrB (d : Nat) (z : List Nat) (m X : List (List UInt8)) (L i k : Nat) : Bool := decide (gN z k = i) && !decide (gR m k = pcR (crw d i) X L)
def wrP (d : Nat) (z : List Nat) (m X : List (List UInt8)) (L i k : Nat) : List Nat := ((List.range k).filter (wrB d z m X L i)).map fun _ => i
def wrA (d : Nat) (z : List Nat) (m X : List (List UInt8)) (L n i : Nat) : List Nat := (List.range i).flatMap fun j => wrP d z m X L j n
theorem wrP_succ (d : Nat) (z : List Nat) (m X : List (List UInt8)) (L i k : Nat) : wrP d z m X L i (k + 1) = if wrB d z m X L i k = true then wrP d z m X L i k ++ [i] else wrP d z m X L i k := by
  unfold wrP
  rw [List.range_succ, List.filter_append]
  cases h : wrB d z m X L i k <;> simp [h]
theorem wrA_succ (d : Nat) (z : List Nat) (m X : List (List UInt8)) (L n i : Nat) : wrA d z m X L n (i + 1) = wrA d z m X L n i ++ wrP d z m X L i n := by
  unfold wrA; rw [List.range_succ, List.flatMap_append]; simp

def WrI (d : Nat) (z : List Nat) (m X : List (List UInt8)) (L n i k : Nat) (v : Value) (w wr : World) : Prop :=
  (wrA d z m X L n i ++ wrP d z m X L i k).length ≤ 64 * i + k ∧ wr.ownsRow w.heap.size 3 1 v (wrA d z m X L n i ++ wrP d z m X L i k).length ((ints (wrA d z m X L n i ++ wrP d z m X L i k)).map (Value.int .i64)) ∧ Below w.heap.size w wr
def WrRet (R : List Nat) (w : World) (e : Ending) (w' : World) : Prop := ∃ v, e = .returned v ∧ w'.ownsRow w.heap.size 3 1 v R.length ((ints R).map (Value.int .i64)) ∧ Below w.heap.size w w'

set_option maxRecDepth 100000 in
set_option maxHeartbeats 2000000 in
theorem wrong_any (d t : Nat) (A A' A'' : Option Addr) (n c c' nX cX : Nat) (z : List Nat) (m X : List (List UInt8)) (L : Nat) (w : World) (h : IS w A n c (ints z)) (h' : MS w A' n c' m) (h'' : MS w A'' nX cX X)
    (hX : Rect X L) (hnX : 0 < nX) (hnd : nX ≤ d) (hd8 : d ≤ 8) (ht : t ≤ 16) (hn : n ≤ 64) (hL : L ≤ 65536) :
    Calls Try.prog 27 #[.int .i64 (d : Int), .int .i64 (t : Int), .slice A n c, .slice A' n c', .slice A'' nX cX] w (WrRet (wrA d z m X L n t) w) := by
  have HI := Lib.hid h
  have HM := Lib.hid h'
  have HX := Lib.hid h''
  have HRX := Lib.hid hX
  have HL6 := Lib.hid hL
  have ht' : (t : Int) ≤ 16 := by omega
  have hn' : (n : Int) ≤ 64 := by omega
  clear h h' h'' hX hL
  go_enter Try.func27, Try.ntmps27
  go_wp2_with fail
  have HO : Hid (WrI d z m X L n 0 0 (.slice (some ⟨w.heap.size, 0, none⟩) 0 0) w (w.alloc (.cells #[] 3))) := Lib.hid ⟨by simp [wrA, wrP], World.ownsRow_lit w #[] 0 (Nat.le_refl _) (by simp [maxLen]) rfl, (Below.refl _ _).alloc (Nat.le_refl _) _⟩
  go_loopw [11, 12] (fun v x wr => ∃ i : Nat, i ≤ t ∧ x = .int .i64 (i : Int) ∧ Hid (WrI d z m X L n i 0 v w wr)) (fun _ x _ => t - (intOf x).toNat)
  case atStart => exact ⟨0, by omega, rfl, HO⟩
  case round =>
    obtain ⟨i, hi, rfl, hI⟩ := hrel
    by_cases hit : i < t
    · go_wp2_with fail
      go_loopw [11, 13] (fun v x wr => ∃ k : Nat, k ≤ n ∧ x = .int .i64 (k : Int) ∧ Hid (WrI d z m X L n i k v w wr)) (fun _ x _ => n - (intOf x).toNat)
      case atStart => exact ⟨0, by omega, rfl, hI⟩
      case round =>
        obtain ⟨k, hk, rfl, hJ⟩ := hrel
        by_cases hkn : k < n
        · obtain ⟨hlen, hown, hb⟩ := hJ.out
          obtain ⟨g1, o1, rfl, hc1⟩ := HI.out.nat hb hkn
          obtain ⟨g2, o2, A2, n2, c2, rfl, hc2, hr2⟩ := HM.out.at_ hb hkn
          obtain ⟨r, hr⟩ : ∃ r, r = gN z k := ⟨_, rfl⟩
          rw [← hr] at hc1
          have HLEN := Lib.hid hlen
          have HOWN := Lib.hid hown
          have HB := Lib.hid hb
          have HR2 := Lib.hid hr2
          by_cases hri : r = i
          · have q1 : ((r : Int) == (i : Int)) = true := by simp [hri]
            have HRI := Lib.hid hri
            have HRZ := Lib.hid hr
            have cv2 := conv_str hr2.drew
            clear hlen hown hb hr2 hJ hI HO hri hr
            go_wp2_with fail
            refine Text.wp_region_text (fun w' => w'.cell? ⟨g2, o2 + k, none⟩ = some (.slice A2 n2 c2) ∧ (convert 22 9 (.slice A2 n2 c2)).run Try.prog w' = .ok (.string (strB (gR m k))) w') [(0, 4), (1, 4), (2, 4), (4, 4), (3, 1), (5, 4), (6, 4), (7, 4), (8, 4), (9, 4), (12, 4), (13, 4), (14, 4), (10, 0), (11, 0), (15, 2), (16, 1), (17, 4), (18, 4)] (by kernel_rfl) (by kernel_rfl) (fun _ _ _ _ _ h => h) (⟨hc2, cv2⟩) ?_
            iterate 4 (refine Text.purek rfl rfl (fun K hK => ⟨_, fun w' => by go_simp <;> rfl, ?_⟩); go_simp; refine hK _ ?_; clear hK K)
            (refine Text.readk rfl rfl (fun K hK => ⟨_, by go_simp <;> rfl, ?_⟩); go_simp; refine hK _ ?_; clear hK K)
            iterate 8 (refine Text.purek rfl rfl (fun K hK => ⟨_, fun w' => by go_simp <;> rfl, ?_⟩); go_simp; refine hK _ ?_; clear hK K)
            iterate 2 (refine Text.heldk rfl rfl (fun K hK => ⟨_, fun w' hw' => by go_simp <;> rfl, ?_⟩); go_simp; refine hK _ ?_; clear hK K)
            refine Text.effw rfl rfl (fun K hK => ?_)
            go_simp
            refine (rpiece_any d i A'' nX cX X L wr.drew (HX.out.kept HB.out).drew HRX.out hnX hnd hd8 (by omega)).mono ?_
            rintro e w3 ⟨v3, rfl, g3, n3, rfl, hn3, hg3, hk3, hb3⟩
            have hb3' : Below wr.heap.size wr w3 := below_ofDrew hb3
            have cv3 := conv_str (BS.of_blk hk3 hn3 (by rw [pcR_length] at hn3; have := HL6.out; unfold lim; omega))
            have HB3 : Hid (Below w.heap.size w w3) := Lib.hid (below_then HB.out hb3')
            have HOW3 := Lib.hid (Kp.own (S := fun _ => False) (Kp.of_below hb3') HOWN.out (fun _ _ => id))
            refine hK _ _ ⟨cell_kept hb3' hc2, conv_str (HR2.out.kept hb3')⟩ ?_
            clear hK K hb3 hb3' hk3 hn3 hg3 HR2 cv2
            by_cases he : gR m k = pcR (crw d i) X L
            · have hbb : ((strB (gR m k)).toList == (strB (pcR (crw d i) X L)).toList) = true := by rw [strB_eq, decide_eq_true he]
              have HR : Hid (WrI d z m X L n i (k + 1) u11 w w3) := Lib.hid (by
                have e1 : wrP d z m X L i (k + 1) = wrP d z m X L i k := by rw [wrP_succ, if_neg (by unfold wrB; rw [decide_eq_true he]; simp)]
                unfold WrI
                rw [e1]
                exact ⟨by have := HLEN.out; omega, HOW3.out, HB3.out⟩)
              clear he
              (refine Text.readk rfl rfl (fun K hK => ⟨_, by go_simp <;> rfl, ?_⟩); go_simp; refine hK _ ?_; clear hK K)
              iterate 2 (refine Text.purek rfl rfl (fun K hK => ⟨_, fun w' => by go_simp <;> rfl, ?_⟩); go_simp; refine hK _ ?_; clear hK K)
              refine Text.done ?_
              go_wp2_with fail
              go_roundw
              case rel => exact ⟨k + 1, by omega, by go_num, HR⟩
              case measure => simp [intOf]; omega
            · have hbb : ((strB (gR m k)).toList == (strB (pcR (crw d i) X L)).toList) = false := by rw [strB_eq, decide_eq_false he]
              have HE1 : Hid (wrA d z m X L n i ++ wrP d z m X L i (k + 1) = (wrA d z m X L n i ++ wrP d z m X L i k) ++ [i]) := Lib.hid (by
                rw [wrP_succ, if_pos (by unfold wrB; rw [decide_eq_false he, ← HRZ.out, HRI.out]; simp), List.append_assoc])
              obtain ⟨q, hq⟩ : ∃ q, q = (wrA d z m X L n i ++ wrP d z m X L i k).length := ⟨_, rfl⟩
              have HQ := Lib.hid hq
              have hq8 : (q : Int) ≤ 2000 := by have := HLEN.out; omega
              have HQB : Hid ((q + 1) * 8 ≤ 140737488355328 ∧ q < 140737488355328) := Lib.hid (by omega)
              have hbA : Below w3.heap.size w3 (w3.alloc (.cells #[.int .i64 (i : Int)] 3)) := (Below.refl _ _).alloc (Nat.le_refl _) _
              have HOA := Lib.hid (Kp.own (S := fun _ => False) (Kp.of_below hbA) HOW3.out (fun _ _ => id))
              rw [← hq] at HOA
              have HBA := Lib.hid (below_then HB3.out hbA)
              clear he hbA hq
              (refine Text.readk rfl rfl (fun K hK => ⟨_, by go_simp <;> rfl, ?_⟩); go_simp; refine hK _ ?_; clear hK K)
              iterate 2 (refine Text.purek rfl rfl (fun K hK => ⟨_, fun w' => by go_simp <;> rfl, ?_⟩); go_simp; refine hK _ ?_; clear hK K)
              refine Text.done ?_
              go_wp2_with (first
                | (at_builtin; refine wpList_app1 _ rfl (.tmp 45) (.tmp 47) 37 3 (.int .i64 0) 8 Try.underlying37 infoInt rfl rfl w.heap.size u11 q ((ints (wrA d z m X L n i ++ wrP d z m X L i k)).map (Value.int .i64)) rfl HOA.out w3.heap.size 1 3 (.int .i64 (i : Int)) rfl (Blk.new w3 _ _) rfl HQB.out.1 HQB.out.2 HBA.out.size ?_; intro v4 w4 hp4))
              have HR : Hid (WrI d z m X L n i (k + 1) v4 w w4) := Lib.hid (by
                unfold WrI
                rw [HE1.out]
                refine ⟨by rw [List.length_append]; have := HLEN.out; simp only [List.length_cons, List.length_nil]; omega, ?_, HBA.out.grown hp4.2.1 HBA.out.size (fun b hb' => own_base HOA.out b hb')⟩
                rw [List.length_append, ← HQ.out, ints_map_append]
                exact hp4.1)
              clear hp4
              go_roundw
              case rel => exact ⟨k + 1, by omega, by go_num, HR⟩
              case measure => simp [intOf]; omega
          · have q1 : ((r : Int) == (i : Int)) = false := by simp; omega
            have HR : Hid (WrI d z m X L n i (k + 1) u11 w wr.drew) := Lib.hid (by
              have e1 : wrP d z m X L i (k + 1) = wrP d z m X L i k := by rw [wrP_succ, if_neg (by unfold wrB; rw [← hr, decide_eq_false hri]; simp)]
              unfold WrI
              rw [e1]
              exact ⟨by omega, hown, hb.drew⟩)
            clear hlen hown hb hr2 hJ hI HO hri hr
            go_wp2_with fail
            refine Text.wp_region_text (fun _ => True) [(0, 4), (1, 4), (2, 4), (4, 4), (3, 1), (5, 4), (6, 4), (7, 4), (8, 4), (9, 4), (10, 4), (11, 4), (12, 4), (13, 4), (14, 4), (15, 4), (16, 4), (17, 4), (18, 4)] (by kernel_rfl) (by kernel_rfl) (fun _ _ _ _ _ h => h) (trivial) ?_
            iterate 4 (refine Text.purek rfl rfl (fun K hK => ⟨_, fun w' => by go_simp <;> rfl, ?_⟩); go_simp; refine hK _ ?_; clear hK K)
            (refine Text.readk rfl rfl (fun K hK => ⟨_, by go_simp <;> rfl, ?_⟩); go_simp; refine hK _ ?_; clear hK K)
            iterate 2 (refine Text.purek rfl rfl (fun K hK => ⟨_, fun w' => by go_simp <;> rfl, ?_⟩); go_simp; refine hK _ ?_; clear hK K)
            iterate 11 (refine Text.skipk (.inr (.inr rfl)) rfl rfl (fun K hK => ?_); go_simp; refine hK _ ?_; clear hK K)
            (refine Text.purek rfl rfl (fun K hK => ⟨_, fun w' => by go_simp <;> rfl, ?_⟩); go_simp; refine hK _ ?_; clear hK K)
            refine Text.done ?_
            go_wp2_with fail
            go_roundw
            case rel => exact ⟨k + 1, by omega, by go_num, HR⟩
            case measure => simp [intOf]; omega
        · obtain rfl : k = n := by omega
          have HR : Hid (WrI d z m X L k (i + 1) 0 u11 w wr) := Lib.hid (by
            obtain ⟨hlen, hown, hb⟩ := hJ.out
            have e0 : wrP d z m X L (i + 1) 0 = [] := by simp [wrP]
            unfold WrI
            rw [wrA_succ, e0, List.append_nil]
            exact ⟨by omega, hown, hb⟩)
          clear hJ hI HO
          go_wp2_with fail
          go_roundw
          case rel => exact ⟨i + 1, by omega, by go_num, HR⟩
          case measure => simp [intOf]; omega
    · obtain rfl : i = t := by omega
      have HR : Hid (WrRet (wrA d z m X L n i) w (.returned u11) wr) := Lib.hid (by
        obtain ⟨hlen, hown, hb⟩ := hI.out
        have e0 : wrP d z m X L i 0 = [] := by simp [wrP]
        rw [e0, List.append_nil] at hown
        exact ⟨u11, rfl, hown, hb⟩)
      clear hI HO
      go_wp2_with fail
      go_ret
      exact HR.out
end Go.Proofs.Ytoeeklkebcgmaaa
