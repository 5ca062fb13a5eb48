/- Contract of the reference kinkeepref10.Off: the X of the shares that do not agree with a sharing. -/
import Derived.Test.YtakedococfklgaaTh3m
import Derived.Test.YtakedococfklgaaCo4m
import Derived.Test.YtakedococfklgaaRe7m
namespace Go.Proofs.Ytakedococfklgaa
open Go.RowKit Gf

/-- Whether the share k does not agree and has this X. -/
def ofB (m : List (List UInt8)) (l : List (Int × List UInt8)) (N x k : Nat) : Bool := decide ((gS l k).1 = (x : Int)) && decide (atK m (UInt8.ofNat x) N ≠ (gS l k).2)
def ofI (m : List (List UInt8)) (l : List (Int × List UInt8)) (N x : Nat) (acc : List Int) : Nat → List Int
  | 0 => acc
  | k + 1 => if ofB m l N x k then ofI m l N x acc k ++ [(x : Int)] else ofI m l N x acc k
def ofO (m : List (List UInt8)) (l : List (Int × List UInt8)) (N : Nat) : Nat → List Int
  | 0 => []
  | y + 1 => ofI m l N (y + 1) (ofO m l N y) l.length
theorem ofI_len (m : List (List UInt8)) (l : List (Int × List UInt8)) (N x : Nat) (acc : List Int) : ∀ k, (ofI m l N x acc k).length ≤ acc.length + k
  | 0 => Nat.le_refl _
  | k + 1 => by
    have := ofI_len m l N x acc k
    rw [ofI]; split
    · rw [List.length_append, List.length_singleton]; omega
    · omega
theorem ofO_len (m : List (List UInt8)) (l : List (Int × List UInt8)) (N : Nat) (h : l.length ≤ 64) : ∀ y, (ofO m l N y).length ≤ y * 64
  | 0 => Nat.le_refl _
  | y + 1 => by
    have := ofO_len m l N h y
    have := ofI_len m l N (y + 1) (ofO m l N y) l.length
    rw [ofO]; omega
theorem Kp.ownN {w w1 : World} (h : Below w.heap.size w w1) {base : Nat} {e : TypeId} {v : Value} {n : Nat} {xs : List Value} (ho : w.ownsRow base e 1 v n xs) : w1.ownsRow base e 1 v n xs := Kp.own (S := fun _ => False) (Kp.of_below h) ho (fun _ _ => id)

set_option maxRecDepth 100000 in
set_option maxHeartbeats 4000000 in
theorem roff_any (A : Option Addr) (N c : Nat) (m : List (List UInt8)) (A' : Option Addr) (n c' : Nat) (l : List (Int × List UInt8)) (w : World) (h : MS w A N c m) (h' : SS w A' n c' l) (hr : ∀ j, j < N → (gR m j).length ≤ 255) (hN : N ≤ 100000) (h64 : n ≤ 64) :
    Calls Try.prog 50 #[.slice A N c, .slice A' n c'] w fun e w' => ∃ v, e = .returned v ∧ w'.ownsRow w.heap.size 3 1 v (ofO m l N 255).length ((ofO m l N 255).map (Value.int .i64)) ∧ Below w.heap.size w w' := by
  have hn := h'.len_le
  have H := Lib.hid h
  have H' := Lib.hid h'
  have HL := Lib.hid h'.1
  have HR := Lib.hid hr
  have HN := Lib.hid hN
  have H64 := Lib.hid h64
  clear h h' hr hN h64
  go_enter Try.func50, Try.ntmps50
  go_wp2_with fail
  go_loopw [5, 6] (fun v i wr => ∃ (y q : Nat) (A1 : Option Addr) (c1 : Nat), y ≤ 255 ∧ i = .int .i64 ((y : Int) + 1) ∧ v = .slice A1 q c1 ∧ Hid (q = (ofO m l N y).length) ∧ Hid (wr.ownsRow w.heap.size 3 1 (.slice A1 q c1) q ((ofO m l N y).map (Value.int .i64))) ∧ Hid (Below w.heap.size w wr)) (fun _ i _ => 256 - (intOf i).toNat)
  case atStart => exact ⟨0, 0, none, 0, by omega, rfl, rfl, Lib.hid rfl, Lib.hid (World.ownsRow_nil _ _ _ _), Lib.hid (Below.refl _ _)⟩
  case round =>
    obtain ⟨y, q, A1, c1, hy, rfl, rfl, hq, ho, hb⟩ := hrel
    by_cases hlt : y < 255
    · have q1 : decide ((y : Int) + 1 ≤ 255) = true := by simp; omega
      obtain ⟨wy, rfl⟩ : ∃ wy : World, wy = wr := ⟨_, rfl⟩
      have HY : Hid (0 ≤ (y : Int) + 1 ∧ (y : Int) + 1 ≤ 255) := Lib.hid (by omega)
      have HYT : Hid (((y : Int) + 1).toNat = y + 1) := Lib.hid (by omega)
      have HYC : Hid (((y + 1 : Nat) : Int) = (y : Int) + 1) := Lib.hid (by omega)
      have HQ := hq
      clear hq
      go_wp2_with fail
      clear q1
      go_loopw [5, 15] (fun v i wr => ∃ (k p : Nat) (A2 : Option Addr) (c2 : Nat), k ≤ n ∧ i = .int .i64 (k : Int) ∧ v = .slice A2 p c2 ∧ Hid (p = (ofI m l N (y + 1) (ofO m l N y) k).length) ∧ Hid (wr.ownsRow w.heap.size 3 1 (.slice A2 p c2) p ((ofI m l N (y + 1) (ofO m l N y) k).map (Value.int .i64))) ∧ Hid (Below w.heap.size w wr)) (fun _ i _ => n - (intOf i).toNat)
      case atStart => exact ⟨0, q, A1, c1, by omega, rfl, rfl, HQ, ho, hb⟩
      case round =>
        obtain ⟨k, p, A2, c2, hk, rfl, rfl, hp, ho2, hb2⟩ := hrel
        by_cases hkn : k < n
        · obtain ⟨g1, o1, A3, n3, c3, rfl, s1, s2, s3⟩ := H'.out.at_ hb2.out hkn
          obtain ⟨X, hX⟩ : ∃ X, X = (gS l k).1 := ⟨_, rfl⟩
          obtain ⟨D, hD⟩ : ∃ D, D = (gS l k).2 := ⟨_, rfl⟩
          rw [← hX] at s1
          rw [← hD] at s3
          have HXE := Lib.hid hX
          have HDE := Lib.hid hD
          clear hX hD
          have HP8 : Hid ((p + 1) * 8 ≤ 140737488355328 ∧ p < 140737488355328) := Lib.hid (by
            have h1 := ofI_len m l N (y + 1) (ofO m l N y) k
            have h2 := ofO_len m l N (by rw [HL.out]; exact H64.out) y
            have h3 := hp.out
            have h4 := H64.out
            omega)
          obtain ⟨W3, hW3⟩ : ∃ W, W = wr.alloc (.cells #[.int .i64 X, .slice A3 n3 c3] 33) := ⟨_, rfl⟩
          have hb3 : Below wr.heap.size wr W3 := by rw [hW3]; exact kb1 _ _
          have k3 : Blk W3 wr.heap.size 33 #[.int .i64 X, .slice A3 n3 c3] := by rw [hW3]; exact Blk.new _ _ _
          have HB3 := Lib.hid (below_then hb2.out hb3)
          have HK3 := Lib.hid k3
          have HO3 := Lib.hid (Kp.ownN hb3 ho2.out)
          have HD3 := Lib.hid (s3.kept hb3)
          have HW3 := Lib.hid hW3
          have HP := hp
          clear hb3 k3 hb2 ho2 hp hW3 s3
          by_cases hXy : X = (y : Int) + 1
          · have q2 : (X == (y : Int) + 1) = true := by simpa using hXy
            have cv2 := conv_str HD3.out.drew
            have p0 : W3.cell? ⟨wr.heap.size, 0, none⟩ = some (.int .i64 X) := by rw [HK3.out.cell]; rfl
            have p1 : W3.cell? ⟨wr.heap.size, 1, none⟩ = some (.slice A3 n3 c3) := by rw [HK3.out.cell]; rfl
            have HXY := Lib.hid hXy
            clear hXy
            obtain ⟨E, hE⟩ : ∃ E, E = atK m (UInt8.ofNat (y + 1)) N := ⟨_, rfl⟩
            have HE := Lib.hid hE
            by_cases hne : E = D
            · have hbs : ((strB E).toList == (strB D).toList) = true := by rw [strB_eq]; simpa using hne
              have HI : Hid (ofI m l N (y + 1) (ofO m l N y) (k + 1) = ofI m l N (y + 1) (ofO m l N y) k) := Lib.hid (by
                rw [ofI, if_neg]
                unfold ofB
                rw [← hE, ← HDE.out, decide_eq_false (p := E ≠ D) (by simpa using hne), Bool.and_false]
                simp)
              clear hne hE
              go_wp2_with fail
              rw [← HW3.out]
              refine Text.wp_region_text (fun w' => w'.cell? ⟨wr.heap.size, 1, none⟩ = some (.slice A3 n3 c3) ∧ (convert 22 9 (.slice A3 n3 c3)).run Try.prog w' = .ok (.string (strB D)) w') [(0, 4), (2, 4), (1, 1), (3, 4), (4, 4), (5, 4), (6, 4), (10, 4), (11, 0), (12, 0), (7, 2), (8, 4), (9, 1), (13, 4), (14, 4)] (by kernel_rfl) (by kernel_rfl) (fun _ _ _ _ _ h => h) (⟨p1, cv2⟩) ?_
              iterate 2 (refine Text.purek rfl rfl (fun K hK => ⟨_, fun w' => by go_simp <;> rfl, ?_⟩); go_simp; refine hK _ ?_; clear hK K)
              (refine Text.readk rfl rfl (fun K hK => ⟨_, by go_simp <;> rfl, ?_⟩); go_simp; refine hK _ ?_; clear hK K)
              iterate 5 (refine Text.purek rfl rfl (fun K hK => ⟨_, fun w' => by go_simp <;> rfl, ?_⟩); go_simp; refine hK _ ?_; clear hK K)
              iterate 2 (refine Text.heldk rfl rfl (fun K hK => ⟨_, fun w' hw' => by go_simp <;> rfl, ?_⟩); go_simp; refine hK _ ?_; clear hK K)
              refine Text.effw rfl rfl (fun K hK => ?_)
              go_simp
              have hms := (H.out.kept HB3.out).drew
              refine (ratx_any A N c m ((y : Int) + 1) W3.drew hms HR.out HN.out HY.out.1 HY.out.2).mono ?_
              rintro e w7 ⟨A7, c7, rfl, hb7, hx7, _⟩
              have hx7' := below_ofDrew hx7
              have HB7 := Lib.hid (below_then HB3.out hx7')
              have HO7 := Lib.hid (Kp.ownN hx7' HO3.out)
              have HD7 := Lib.hid (HD3.out.kept hx7')
              have HK7 := Lib.hid (HK3.out.kept hx7')
              rw [HYT.out, ← HE.out] at hb7
              rw [HYT.out, ← HE.out]
              have cv3 := conv_str hb7
              refine hK _ _ ⟨by rw [HK7.out.cell]; rfl, conv_str HD7.out⟩ ?_
              clear hK K hb7 hx7 hx7' hms
              (refine Text.purek rfl rfl (fun K hK => ⟨_, fun w' => by go_simp <;> rfl, ?_⟩); go_simp; refine hK _ ?_; clear hK K)
              (refine Text.readk rfl rfl (fun K hK => ⟨_, by go_simp <;> rfl, ?_⟩); go_simp; refine hK _ ?_; clear hK K)
              iterate 2 (refine Text.purek rfl rfl (fun K hK => ⟨_, fun w' => by go_simp <;> rfl, ?_⟩); go_simp; refine hK _ ?_; clear hK K)
              refine Text.done ?_
              go_wp2_with fail
              rw [← HI.out] at HO7 HP
              go_roundw
              case rel => exact ⟨k + 1, p, _, c2, by omega, by go_num, rfl, HP, HO7, HB7⟩
              case measure => simp [intOf]; omega
            · have hbs : ((strB E).toList == (strB D).toList) = false := by rw [strB_eq]; simpa using hne
              have HI : Hid (ofI m l N (y + 1) (ofO m l N y) (k + 1) = ofI m l N (y + 1) (ofO m l N y) k ++ [(y : Int) + 1]) := Lib.hid (by
                rw [ofI, if_pos]
                · rw [HYC.out]
                · unfold ofB
                  rw [← hE, ← HDE.out, ← HXE.out, HYC.out, HXY.out, decide_eq_true rfl, decide_eq_true (p := E ≠ D) hne]; rfl)
              clear hne hE
              go_wp2_with fail
              rw [← HW3.out]
              refine Text.wp_region_text (fun w' => w'.cell? ⟨wr.heap.size, 1, none⟩ = some (.slice A3 n3 c3) ∧ (convert 22 9 (.slice A3 n3 c3)).run Try.prog w' = .ok (.string (strB D)) w') [(0, 4), (2, 4), (1, 1), (3, 4), (4, 4), (5, 4), (6, 4), (10, 4), (11, 0), (12, 0), (7, 2), (8, 4), (9, 1), (13, 4), (14, 4)] (by kernel_rfl) (by kernel_rfl) (fun _ _ _ _ _ h => h) (⟨p1, cv2⟩) ?_
              iterate 2 (refine Text.purek rfl rfl (fun K hK => ⟨_, fun w' => by go_simp <;> rfl, ?_⟩); go_simp; refine hK _ ?_; clear hK K)
              (refine Text.readk rfl rfl (fun K hK => ⟨_, by go_simp <;> rfl, ?_⟩); go_simp; refine hK _ ?_; clear hK K)
              iterate 5 (refine Text.purek rfl rfl (fun K hK => ⟨_, fun w' => by go_simp <;> rfl, ?_⟩); go_simp; refine hK _ ?_; clear hK K)
              iterate 2 (refine Text.heldk rfl rfl (fun K hK => ⟨_, fun w' hw' => by go_simp <;> rfl, ?_⟩); go_simp; refine hK _ ?_; clear hK K)
              refine Text.effw rfl rfl (fun K hK => ?_)
              go_simp
              have hms := (H.out.kept HB3.out).drew
              refine (ratx_any A N c m ((y : Int) + 1) W3.drew hms HR.out HN.out HY.out.1 HY.out.2).mono ?_
              rintro e w7 ⟨A7, c7, rfl, hb7, hx7, _⟩
              have hx7' := below_ofDrew hx7
              have HB7 := Lib.hid (below_then HB3.out hx7')
              have HO7 := Lib.hid (Kp.ownN hx7' HO3.out)
              have HD7 := Lib.hid (HD3.out.kept hx7')
              have HK7 := Lib.hid (HK3.out.kept hx7')
              rw [HYT.out, ← HE.out] at hb7
              rw [HYT.out, ← HE.out]
              have cv3 := conv_str hb7
              refine hK _ _ ⟨by rw [HK7.out.cell]; rfl, conv_str HD7.out⟩ ?_
              clear hK K hb7 hx7 hx7' hms
              (refine Text.purek rfl rfl (fun K hK => ⟨_, fun w' => by go_simp <;> rfl, ?_⟩); go_simp; refine hK _ ?_; clear hK K)
              (refine Text.readk rfl rfl (fun K hK => ⟨_, by go_simp <;> rfl, ?_⟩); go_simp; refine hK _ ?_; clear hK K)
              iterate 2 (refine Text.purek rfl rfl (fun K hK => ⟨_, fun w' => by go_simp <;> rfl, ?_⟩); go_simp; refine hK _ ?_; clear hK K)
              refine Text.done ?_
              have hb9 : Below w7.heap.size w7 (w7.alloc (.cells #[.int .i64 ((y : Int) + 1)] 3)) := kb1 _ _
              have HK9 : Hid (Blk (w7.alloc (.cells #[.int .i64 ((y : Int) + 1)] 3)) w7.heap.size 3 #[.int .i64 ((y : Int) + 1)]) := Lib.hid (Blk.new _ _ _)
              have HO9 := Lib.hid (Kp.ownN hb9 HO7.out)
              have HB9 := Lib.hid (below_then HB7.out hb9)
              clear hb9
              go_wp2_with (first
                | (at_builtin; refine wpList_app1 _ rfl (.tmp 34) (.tmp 36) 24 3 (.int .i64 0) 8 Try.underlying24 infoInt rfl rfl w.heap.size (.slice A2 p c2) p _ rfl HO9.out w7.heap.size 1 3 (.int .i64 ((y : Int) + 1)) rfl HK9.out rfl HP8.out.1 HP8.out.2 HB9.out.size ?_; intro v6 w6 hp6))
              obtain ⟨m6, g6, cap6, hm6, rfl⟩ := own_form (by omega) hp6.1
              subst hm6
              have HO6 : Hid (w6.ownsRow w.heap.size 3 1 (.slice (some ⟨g6, 0, none⟩) (p + 1) cap6) (p + 1) ((ofI m l N (y + 1) (ofO m l N y) (k + 1)).map (Value.int .i64))) := Lib.hid (by rw [HI.out, List.map_append]; exact hp6.1)
              have HB6 : Hid (Below w.heap.size w w6) := Lib.hid (HB9.out.grown hp6.2.1 HB9.out.size (fun b hb' => own_base HO9.out b hb'))
              have HQ6 : Hid (p + 1 = (ofI m l N (y + 1) (ofO m l N y) (k + 1)).length) := Lib.hid (by rw [HI.out, List.length_append, ← HP.out]; rfl)
              clear hp6
              go_wp2_with fail
              go_roundw
              case rel => exact ⟨k + 1, p + 1, _, cap6, by omega, by go_num, rfl, HQ6, HO6, HB6⟩
              case measure => simp [intOf]; omega
          · have q2 : (X == (y : Int) + 1) = false := by simpa using hXy
            have p0 : W3.cell? ⟨wr.heap.size, 0, none⟩ = some (.int .i64 X) := by rw [HK3.out.cell]; rfl
            have HI : Hid (ofI m l N (y + 1) (ofO m l N y) (k + 1) = ofI m l N (y + 1) (ofO m l N y) k) := Lib.hid (by
              rw [ofI, if_neg]
              unfold ofB
              rw [← HXE.out, HYC.out, decide_eq_false hXy, Bool.false_and]; simp)
            clear hXy
            go_wp2_with fail
            rw [← HW3.out]
            refine Text.wp_region_text (fun _ => True) [(0, 4), (2, 4), (1, 1), (3, 4), (4, 4), (5, 4), (6, 4), (7, 4), (8, 4), (9, 4), (10, 4), (11, 4), (12, 4), (13, 4), (14, 4)] (by kernel_rfl) (by kernel_rfl) (fun _ _ _ _ _ h => h) (trivial) ?_
            iterate 2 (refine Text.purek rfl rfl (fun K hK => ⟨_, fun w' => by go_simp <;> rfl, ?_⟩); go_simp; refine hK _ ?_; clear hK K)
            (refine Text.readk rfl rfl (fun K hK => ⟨_, by go_simp <;> rfl, ?_⟩); go_simp; refine hK _ ?_; clear hK K)
            iterate 2 (refine Text.purek rfl rfl (fun K hK => ⟨_, fun w' => by go_simp <;> rfl, ?_⟩); go_simp; refine hK _ ?_; clear hK K)
            iterate 9 (refine Text.skipk (.inr (.inr rfl)) rfl rfl (fun K hK => ?_); go_simp; refine hK _ ?_; clear hK K)
            (refine Text.purek rfl rfl (fun K hK => ⟨_, fun w' => by go_simp <;> rfl, ?_⟩); go_simp; refine hK _ ?_; clear hK K)
            refine Text.done ?_
            have HB7 := Lib.hid HB3.out.drew
            have HO7 : Hid (W3.drew.ownsRow w.heap.size 3 1 (.slice A2 p c2) p ((ofI m l N (y + 1) (ofO m l N y) k).map (Value.int .i64))) := HO3
            go_wp2_with fail
            rw [← HI.out] at HO7 HP
            go_roundw
            case rel => exact ⟨k + 1, p, _, c2, by omega, by go_num, rfl, HP, HO7, HB7⟩
            case measure => simp [intOf]; omega
        · obtain rfl : k = n := by omega
          have HO9 : Hid (wr.ownsRow w.heap.size 3 1 (.slice A2 p c2) p ((ofO m l N (y + 1)).map (Value.int .i64))) := Lib.hid (by rw [ofO, HL.out]; exact ho2.out)
          have HP9 : Hid (p = (ofO m l N (y + 1)).length) := Lib.hid (by rw [ofO, HL.out]; exact hp.out)
          go_wp2_with fail
          go_roundw
          case rel => exact ⟨y + 1, p, _, c2, by omega, by go_num, rfl, HP9, HO9, hb2⟩
          case measure => simp [intOf]; omega
    · obtain rfl : y = 255 := by omega
      have q1 : decide ((255 : Int) + 1 ≤ 255) = false := by decide
      have HR9 : Hid (wr.ownsRow w.heap.size 3 1 (.slice A1 q c1) (ofO m l N 255).length ((ofO m l N 255).map (Value.int .i64))) := Lib.hid (by rw [← hq.out]; exact ho.out)
      go_wp2_with fail
      go_ret
      exact ⟨_, rfl, HR9.out, hb.out⟩
end Go.Proofs.Ytakedococfklgaa
