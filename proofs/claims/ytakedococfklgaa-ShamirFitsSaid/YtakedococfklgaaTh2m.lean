/- Contracts of the references Sharing.Below and Sharing.At of kinkeepref10. -/
import Derived.Test.YtakedococfklgaaTh0m
import Derived.Test.YtakedococfklgaaRe2m
namespace Go.Proofs.Ytakedococfklgaa
open Go.RowKit Gf

/-- All degrees are less than t. -/
def blB (m : List (List UInt8)) (t : Int) : Bool := (List.range m.length).all fun i => decide ((Py.tl (gR m i) : Int) - 1 < t)

set_option maxRecDepth 100000 in
set_option maxHeartbeats 1000000 in
theorem rbelow_any (A : Option Addr) (n c : Nat) (m : List (List UInt8)) (t : Int) (w : World) (h : MS w A n c m) :
    Calls Try.prog 57 #[.slice A n c, .int .i64 t] w (ChkB (blB m t) w) := by
  have hn := h.len_le
  have H := Lib.hid h
  have HL := Lib.hid h.1
  clear h
  go_enter Try.func57, Try.ntmps57
  go_wp2_with fail
  go_loopw [9] (fun i wr => ∃ k : Nat, k ≤ n ∧ i = .int .i64 (k : Int) ∧ Hid (∀ j, j < k → (Py.tl (gR m j) : Int) - 1 < t) ∧ Hid (Below w.heap.size w wr)) (fun i _ => n - (intOf i).toNat)
  case atStart => exact ⟨0, by omega, rfl, Lib.hid (fun j hj => absurd hj (by omega)), Lib.hid (Below.refl _ _)⟩
  case round =>
    obtain ⟨k, hk, rfl, hall, hb⟩ := hrel
    by_cases hlt : k < n
    · obtain ⟨g1, o1, A1, n1, c1, rfl, r1, r2⟩ := H.out.at_ hb.out hlt
      have HR := Lib.hid r2
      obtain ⟨d, hd⟩ : ∃ d, d = Py.tl (gR m k) := ⟨_, rfl⟩
      have HD := Lib.hid hd
      clear r2 hd
      by_cases e : t ≤ (d : Int) - 1
      · have q : decide (t ≤ (d : Int) - 1) = true := by simpa using e
        have HF : Hid (blB m t = false) := Lib.hid (by unfold blB; rw [List.all_eq_false]; exact ⟨k, List.mem_range.2 (by rw [HL.out]; exact hlt), by rw [← HD.out]; simp; omega⟩)
        clear e
        go_wp2_with fail
        refine (rdegree_any A1 n1 c1 (gR m k) wr HR.out).mono ?_
        rintro e w1 ⟨rfl, hx1⟩
        rw [← HD.out]
        have HB1 := Lib.hid (below_then hb.out hx1)
        clear hx1
        go_wp2_with fail
        go_ret
        exact ⟨ret_bool HF.out.symm, HB1.out⟩
      · have q : decide (t ≤ (d : Int) - 1) = false := by simpa using e
        have HA : Hid (∀ j, j < k + 1 → (Py.tl (gR m j) : Int) - 1 < t) := Lib.hid (fun j hj => by
          by_cases e' : j = k
          · rw [e', ← HD.out]; omega
          · exact hall.out j (by omega))
        clear e
        go_wp2_with fail
        refine (rdegree_any A1 n1 c1 (gR m k) wr HR.out).mono ?_
        rintro e w1 ⟨rfl, hx1⟩
        rw [← HD.out]
        have HB1 := Lib.hid (below_then hb.out hx1)
        clear hx1
        go_wp2_with fail
        go_roundw
        case rel => exact ⟨k + 1, by omega, by go_num, HA, HB1⟩
        case measure => simp [intOf]; omega
    · obtain rfl : k = n := by omega
      have HF : Hid (blB m t = true) := Lib.hid (by unfold blB; rw [List.all_eq_true]; intro i hi; rw [List.mem_range, HL.out] at hi; exact decide_eq_true (hall.out i hi))
      go_wp2_with fail
      go_ret
      exact ⟨ret_bool HF.out.symm, hb.out⟩

/-- The values at X of the first k polynomials. -/
def atK (m : List (List UInt8)) (X : UInt8) (k : Nat) : List UInt8 := tab k (fun b => Py.ev (gR m b) X)
theorem atK_length (m : List (List UInt8)) (X : UInt8) (k : Nat) : (atK m X k).length = k := tab_length _ _
theorem atK_succ (m : List (List UInt8)) (X : UInt8) (k : Nat) : atK m X (k + 1) = atK m X k ++ [Py.ev (gR m k) X] := by
  unfold atK tab; rw [List.range_succ, List.map_append]; rfl

set_option maxRecDepth 100000 in
set_option maxHeartbeats 1000000 in
theorem ratx_any (A : Option Addr) (n cs : Nat) (m : List (List UInt8)) (x : Int) (w : World) (h : MS w A n cs m) (hr : ∀ j, j < n → (gR m j).length ≤ 255) (hn : n ≤ 100000) (hx0 : 0 ≤ x) (hx1 : x ≤ 255) :
    Calls Try.prog 30 #[.slice A n cs, .int .i64 x] w (RShRet x (atK m (UInt8.ofNat x.toNat) n) w) := by
  have hn2 := h.len_le
  have H := Lib.hid h
  have HR := Lib.hid hr
  have HNN := Lib.hid hn
  obtain ⟨X, hX⟩ : ∃ X, X = UInt8.ofNat x.toNat := ⟨_, rfl⟩
  have hxX : bv X = x := by rw [hX]; exact bv_ofNat x hx0 (by omega)
  rw [← hX]
  have hXB : Value.int .u8 (IntKind.u8.wrap x) = B X := by rw [← hxX, bv_wrap]
  have HXB := Lib.hid hXB
  clear hX h hr hn hXB hxX
  go_enter Try.func30, Try.ntmps30
  go_wp2_with fail
  obtain ⟨gd, hgd⟩ : ∃ gd, gd = w.heap.size + 1 := ⟨_, rfl⟩
  have hgw : w.heap.size ≠ gd := by omega
  have HB0 : Hid (Below w.heap.size w ((w.alloc (.cells #[.int .i64 0, .slice none 0 0] 33)).alloc (.cells #[.int .i64 x, .slice none 0 0] 33))) := Lib.hid (below_then (kb1 w _) (kb1 _ _))
  have HK0 : Hid (Blk ((w.alloc (.cells #[.int .i64 0, .slice none 0 0] 33)).alloc (.cells #[.int .i64 x, .slice none 0 0] 33)) w.heap.size 33 #[.int .i64 0, .slice none 0 0]) := Lib.hid ((blk_at rfl _ _).alloc _)
  have HK1 : Hid (Blk ((w.alloc (.cells #[.int .i64 0, .slice none 0 0] 33)).alloc (.cells #[.int .i64 x, .slice none 0 0] 33)) gd 33 #[.int .i64 x, .slice none 0 0]) := Lib.hid (blk_at (by rw [hgd]; simp) _ _)
  have HGD := Lib.hid hgd
  rw [← hgd]
  clear hgd
  go_loopw [12] (fun i wr => ∃ (k : Nat) (A : Option Addr) (c : Nat), k ≤ n ∧ i = .int .i64 (k : Int) ∧ Hid (Blk wr gd 33 #[.int .i64 x, .slice A k c]) ∧ Hid (wr.ownsRow w.heap.size 5 1 (.slice A k c) k ((atK m X k).map B)) ∧ Hid (Blk wr w.heap.size 33 #[.int .i64 0, .slice none 0 0]) ∧ Hid (Below w.heap.size w wr)) (fun i _ => n - (intOf i).toNat)
  case atStart => exact ⟨0, none, 0, by omega, rfl, HK1, Lib.hid (World.ownsRow_nil _ _ _ _), HK0, HB0⟩
  case round =>
    clear HB0 HK0 HK1
    obtain ⟨k, A1, c, hk, rfl, hd, ho, h0, hb⟩ := hrel
    by_cases hlt : k < n
    · obtain ⟨g, o, A2, n2, c2, rfl, r1, r2⟩ := H.out.at_ hb.out hlt
      have HE : Hid (n2 ≤ 255) := Lib.hid (by rw [← r2.1]; exact HR.out k hlt)
      have HBP : Hid (BS wr.drew A2 n2 c2 (gR m k)) := Lib.hid r2.drew
      have q5 : wr.cell? ⟨gd, 1, none⟩ = some (.slice A1 k c) := by rw [hd.out.cell]; rfl
      have hx2 : x < 256 := by omega
      clear r2
      go_wp2_with fail
      refine Text.wp_region_text (fun w' => w'.cell? ⟨gd, 1, none⟩ = some (.slice A1 k c)) [(0, 4), (2, 4), (3, 4), (4, 4), (1, 0), (5, 2), (6, 2), (7, 2), (8, 4), (9, 3)] (by kernel_rfl) (by kernel_rfl) (fun _ _ _ _ _ h => h) (q5) ?_
      iterate 4 (refine Text.purek rfl rfl (fun K hK => ⟨_, fun w' => by go_simp <;> rfl, ?_⟩); go_simp; refine hK _ ?_; clear hK K)
      (refine Text.heldk rfl rfl (fun K hK => ⟨_, fun w' hw' => by go_simp <;> rfl, ?_⟩); go_simp; refine hK _ ?_; clear hK K)
      refine Text.eff rfl rfl (fun K hK => ?_)
      go_simp
      rw [HXB.out]
      refine (reval_any A2 n2 c2 (gR m k) X wr.drew HBP.out HE.out).mono ?_
      rintro e w5 ⟨rfl, d, rfl⟩
      refine hK _ _ q5 ?_
      clear hK K
      refine Text.eff rfl rfl (fun K hK => ?_)
      go_simp
      obtain ⟨Y, hY⟩ : ∃ Y, Y = rv (gR m k) X := ⟨_, rfl⟩
      rw [← hY]
      obtain ⟨W6, hW6⟩ : ∃ W, W = (wr.drewN (1 + d)).alloc (.cells #[B Y] 5) := ⟨_, rfl⟩
      have hb6 : Below wr.heap.size wr W6 := by rw [hW6]; exact (below_drewN (Below.refl _ wr) _).alloc (Nat.le_refl _) _
      have hk6 : Blk W6 wr.heap.size 5 #[B Y] := by rw [hW6]; exact Blk.new (wr.drewN (1 + d)) _ _
      rw [← hW6]
      refine hK _ _ (cell_kept hb6 q5) ?_
      clear hK K
      have q6 := cell_kept hb6 q5
      have HBK6 : Hid (BS W6 (some ⟨wr.heap.size, 0, none⟩) 1 1 [Y]) := Lib.hid (bs1 hk6)
      have HO6 := Lib.hid (Kp.own (S := fun _ => False) (Kp.of_below hb6) ho.out (fun _ _ => id))
      have HD6 := Lib.hid (hd.out.kept hb6)
      have H06 := Lib.hid (h0.out.kept hb6)
      have HBW6 := Lib.hid (below_then hb.out hb6)
      have HYY : Hid (Y = Py.ev (gR m k) X) := Lib.hid (by rw [hY, rv_ev])
      clear hb6 hk6 hW6 hY
      refine Text.eff rfl rfl (fun K hK => ?_)
      have HKK : Hid (k + 1 ≤ 140737488355328) := Lib.hid (by have := HNN.out; omega)
      refine wp_appB W6 (.tmp 17) (.tmp 22) rfl w.heap.size (.slice A1 k c) k _ rfl HO6.out (some ⟨wr.heap.size, 0, none⟩) 1 1 [Y] rfl HBK6.out HKK.out HBW6.out.size ?_
      intro v7 w7 hp7
      obtain ⟨m7, g7, cap7, hm7, rfl⟩ := own_form (by omega) hp7.1
      subst hm7
      have hne := own_ne HO6.out HD6.out (by decide)
      have hD7 := grown_blk hp7.2.1 HD6.out hne
      have hne0 := own_ne HO6.out H06.out (by decide)
      have H07 := Lib.hid (grown_blk hp7.2.1 H06.out hne0)
      have q7 : w7.cell? ⟨gd, 1, none⟩ = some (.slice A1 k c) := by rw [hD7.cell]; rfl
      have q8 := hD7.frozen 1
      have HB7 : Hid (Below w.heap.size w w7) := Lib.hid (HBW6.out.grown hp7.2.1 HBW6.out.size (fun b hb' => own_base HO6.out b hb'))
      have HD7 := Lib.hid hD7
      have hK8 : Kp (fun b => b = gd) w7 (w7.setCell ⟨gd, 1, none⟩ (.slice (some ⟨g7, 0, none⟩) (k + 1) cap7)) := (Kp.refl (fun b => b = gd) w7).set (p := ⟨gd, 1, none⟩) (.inl rfl) _
      have HO8 : Hid ((w7.setCell ⟨gd, 1, none⟩ (.slice (some ⟨g7, 0, none⟩) (k + 1) cap7)).ownsRow w.heap.size 5 1 (.slice (some ⟨g7, 0, none⟩) (k + 1) cap7) (k + 1) ((atK m X (k + 1)).map B)) := Lib.hid (by
        rw [atK_succ, ← HYY.out]
        exact hK8.own hp7.1 (fun g hg e => own_ne hp7.1 HD7.out (by decide) (by rw [hg, e])))
      have HD8 : Hid (Blk (w7.setCell ⟨gd, 1, none⟩ (.slice (some ⟨g7, 0, none⟩) (k + 1) cap7)) gd 33 #[.int .i64 x, .slice (some ⟨g7, 0, none⟩) (k + 1) cap7]) := Lib.hid (HD7.out.set_ 1 _)
      have H08 : Hid (Blk (w7.setCell ⟨gd, 1, none⟩ (.slice (some ⟨g7, 0, none⟩) (k + 1) cap7)) w.heap.size 33 #[.int .i64 0, .slice none 0 0]) := Lib.hid (hK8.blk H07.out hgw)
      have HB8 : Hid (Below w.heap.size w (w7.setCell ⟨gd, 1, none⟩ (.slice (some ⟨g7, 0, none⟩) (k + 1) cap7))) := Lib.hid (HB7.out.setCell (show w.heap.size ≤ gd by have := HGD.out; omega) _)
      refine hK _ _ q7 ?_
      clear hK K hne hne0 hD7 hp7 hK8
      (refine Text.purek rfl rfl (fun K hK => ⟨_, fun w' => by go_simp <;> rfl, ?_⟩); go_simp; refine hK _ ?_; clear hK K)
      refine Text.last rfl rfl (fun K hK => ?_)
      go_simp
      refine hK _ _ ?_
      clear hK K
      refine Text.done ?_
      go_wp2_with fail
      go_roundw
      case rel => exact ⟨k + 1, _, cap7, by omega, by go_num, HD8, HO8, H08, HB8⟩
      case measure => simp [intOf]; omega
    · obtain rfl : k = n := by omega
      have q6 : wr.cell? ⟨gd, 0, none⟩ = some (.int .i64 x) := by rw [hd.out.cell]; rfl
      have q7 : wr.cell? ⟨gd, 1, none⟩ = some (.slice A1 k c) := by rw [hd.out.cell]; rfl
      have q8 : wr.cell? ⟨w.heap.size, 0, none⟩ = some (.int .i64 0) := by rw [h0.out.cell]; rfl
      have q9 := h0.out.frozen 0
      have h1 := h0.out.set_ 0 (.int .i64 x)
      have q10 : (wr.setCell ⟨w.heap.size, 0, none⟩ (.int .i64 x)).cell? ⟨w.heap.size, 1, none⟩ = some (.slice none 0 0) := by rw [h1.cell]; rfl
      have q11 := h1.frozen 1
      have h2 := h1.set_ 1 (.slice A1 k c)
      have q12 : ((wr.setCell ⟨w.heap.size, 0, none⟩ (.int .i64 x)).setCell ⟨w.heap.size, 1, none⟩ (.slice A1 k c)).cell? ⟨w.heap.size, 0, none⟩ = some (.int .i64 x) := by rw [h2.cell]; rfl
      have q13 : ((wr.setCell ⟨w.heap.size, 0, none⟩ (.int .i64 x)).setCell ⟨w.heap.size, 1, none⟩ (.slice A1 k c)).cell? ⟨w.heap.size, 1, none⟩ = some (.slice A1 k c) := by rw [h2.cell]; rfl
      clear h1 h2
      go_wp2_with fail
      refine bodyPost_ret (v := .agg #[.int .i64 x, .slice A1 k c]) (by simp [results, Try.results30, go_sem, q12, q13]) rfl ?_
      have hK : Kp (fun b => b = w.heap.size) wr ((wr.setCell ⟨w.heap.size, 0, none⟩ (.int .i64 x)).setCell ⟨w.heap.size, 1, none⟩ (.slice A1 k c)) := ((Kp.refl (fun b => b = w.heap.size) wr).set (p := ⟨w.heap.size, 0, none⟩) (.inl rfl) _).set (p := ⟨w.heap.size, 1, none⟩) (.inl rfl) _
      have hO := hK.own ho.out (fun g hg e => own_ne ho.out h0.out (by decide) (by rw [hg, e]))
      obtain ⟨A', c', e1, b1⟩ := BS.of_own hO (by have := HNN.out; unfold lim; omega)
      injection e1 with e11 e12 e13
      subst e11 e13
      refine ⟨A1, c, by rw [atK_length], by rw [atK_length]; exact b1, (hb.out.setCell (Nat.le_refl _) _).setCell (Nat.le_refl _) _, fun h0' a ea => ?_⟩
      rw [ea] at hO
      exact own_base hO a.block rfl
end Go.Proofs.Ytakedococfklgaa
