/- Contract of the reference kinkeepref10.Share. -/
import Derived.Test.YtakedococfklgaaRe0m
import Derived.Test.YtakedococfklgaaRe1m
import Derived.Test.YtakedococfklgaaCo4m
import Derived.Test.YtakedococfklgaaAw1m
namespace Go.Proofs.Ytakedococfklgaa
open Go.RowKit Gf

/-- The polynomial of byte b: the secret's byte, then those of j lists. -/
def spP (s : List UInt8) (co : List (List UInt8)) (b : Nat) : List UInt8 := gB s b :: co.map (fun r => gB r b)
/-- The bytes of a share. -/
def spK (s : List UInt8) (co : List (List UInt8)) (X : UInt8) (k : Nat) : List UInt8 := tab k (fun b => rv (spP s co b) X)
theorem spK_length (s : List UInt8) (co : List (List UInt8)) (X : UInt8) (k : Nat) : (spK s co X k).length = k := tab_length _ _
theorem spK_succ (s : List UInt8) (co : List (List UInt8)) (X : UInt8) (k : Nat) : spK s co X (k + 1) = spK s co X k ++ [rv (spP s co k) X] := by
  unfold spK tab; rw [List.range_succ, List.map_append]; rfl

def RShRet (x : Int) (d : List UInt8) (w : World) (e : Ending) (w' : World) : Prop :=
  ∃ A c, e = .returned (.agg #[.int .i64 x, .slice A d.length c]) ∧ BS w' A d.length c d ∧ Below w.heap.size w w' ∧ (0 < d.length → AtB A (fun b => w.heap.size ≤ b))

set_option maxRecDepth 100000 in
set_option maxHeartbeats 1000000 in
theorem rshare_any (As Ac : Option Addr) (n cs nc cc : Nat) (s : List UInt8) (co : List (List UInt8)) (x : Int) (w : World) (hs : BS w As n cs s) (hc : MS w Ac nc cc co) (hr : ∀ j, j < nc → (gR co j).length = n) (hnc : nc ≤ 200) (hn : n ≤ 100000) (hx0 : 0 ≤ x) (hx1 : x ≤ 255) :
    Calls Try.prog 16 #[.slice As n cs, .slice Ac nc cc, .int .i64 x] w (RShRet x (spK s co (UInt8.ofNat x.toNat) n) w) := by
  have HS := Lib.hid hs
  have HC := Lib.hid hc
  have HR := Lib.hid hr
  have HLC := Lib.hid hc.1
  obtain ⟨X, hX⟩ : ∃ X, X = UInt8.ofNat x.toNat := ⟨_, rfl⟩
  have hxX : bv X = x := by rw [hX]; exact bv_ofNat x hx0 (by omega)
  rw [← hX]
  have HNN := Lib.hid hn
  have HNC := Lib.hid hnc
  have HE := Lib.hid (show nc + 1 ≤ 255 by omega)
  have hn2 := hs.len_le
  have hnc2 := hc.len_le
  clear hX hs hc hr hn hnc
  have hXB : Value.int .u8 (IntKind.u8.wrap x) = B X := by rw [← hxX, bv_wrap]
  have HXB := Lib.hid hXB
  clear hXB hxX
  go_enter Try.func16, Try.ntmps16
  go_wp2_with fail
  obtain ⟨gd, hgd⟩ : ∃ gd, gd = w.heap.size + 1 := ⟨_, rfl⟩
  have hgw : w.heap.size ≠ gd := by omega
  have HB0 : Hid (Below w.heap.size w ((w.alloc (.cells #[.int .i64 0, .slice none 0 0] 33)).alloc (.cells #[.int .i64 x, .slice none 0 0] 33))) := Lib.hid (below_then (kb1 w _) (kb1 _ _))
  have HK0 : Hid (Blk ((w.alloc (.cells #[.int .i64 0, .slice none 0 0] 33)).alloc (.cells #[.int .i64 x, .slice none 0 0] 33)) w.heap.size 33 #[.int .i64 0, .slice none 0 0]) := Lib.hid ((blk_at rfl _ _).alloc _)
  have HK1 : Hid (Blk ((w.alloc (.cells #[.int .i64 0, .slice none 0 0] 33)).alloc (.cells #[.int .i64 x, .slice none 0 0] 33)) gd 33 #[.int .i64 x, .slice none 0 0]) := Lib.hid (blk_at (by rw [hgd]; simp) _ _)
  have HGD := Lib.hid hgd
  rw [← hgd]
  clear hgd
  go_loopw [16] (fun i wr => ∃ (k : Nat) (A : Option Addr) (c : Nat), k ≤ n ∧ i = .int .i64 (k : Int) ∧ Hid (Blk wr gd 33 #[.int .i64 x, .slice A k c]) ∧ Hid (wr.ownsRow w.heap.size 5 1 (.slice A k c) k ((spK s co X k).map B)) ∧ Hid (Blk wr w.heap.size 33 #[.int .i64 0, .slice none 0 0]) ∧ Hid (Below w.heap.size w wr)) (fun i _ => n - (intOf i).toNat)
  case atStart => exact ⟨0, none, 0, by omega, rfl, HK1, Lib.hid (World.ownsRow_nil _ _ _ _), HK0, HB0⟩
  case round =>
    clear HB0 HK0 HK1
    obtain ⟨k, A, c, hk, rfl, hd, ho, h0, hb⟩ := hrel
    by_cases hlt : k < n
    · obtain ⟨g, o, rfl, hc⟩ := HS.out.at_ hb.out hlt
      obtain ⟨y, hy⟩ : ∃ y, y = gB s k := ⟨_, rfl⟩
      rw [← hy] at hc
      have HY := Lib.hid hy
      clear hy
      obtain ⟨w1, rfl⟩ : ∃ w1, w1 = wr := ⟨_, rfl⟩
      go_wp2_with fail
      go_loopw [9, 26] (fun v i wr => ∃ (j m : Nat) (A2 : Option Addr) (c2 : Nat), j ≤ nc ∧ i = .int .i64 (j : Int) ∧ m = j + 1 ∧ v = .slice A2 m c2 ∧ Hid (wr.ownsRow w1.heap.size 5 1 (.slice A2 m c2) m ((y :: (co.take j).map (fun r => gB r k)).map B)) ∧ Hid (Below w1.heap.size w1 wr)) (fun _ i _ => nc - (intOf i).toNat)
      case atStart => exact ⟨0, 1, _, 1, by omega, rfl, rfl, rfl, Lib.hid (own_one w1 y), Lib.hid (kb1 _ _)⟩
      case round =>
        obtain ⟨j, m, A2, c2, hj, rfl, hm, rfl, ho2, hb2⟩ := hrel
        by_cases hlj : j < nc
        · obtain ⟨g3, o3, A3, n3, c3, rfl, hc3, hr3⟩ := HC.out.at_ (below_then hb.out hb2.out) hlj
          obtain rfl : n3 = n := by rw [← hr3.1]; exact HR.out j hlj
          obtain ⟨g4, o4, rfl, hc4⟩ := hr3.at_ (Below.refl _ _) hlt
          obtain ⟨z, hz⟩ : ∃ z, z = gB (gR co j) k := ⟨_, rfl⟩
          rw [← hz] at hc4
          have HTK : Hid ((y :: (co.take (j + 1)).map (fun r => gB r k)) = (y :: (co.take j).map (fun r => gB r k)) ++ [z]) := Lib.hid (by
            have hj' : j < co.length := by rw [HLC.out]; exact hlj
            rw [List.take_succ_eq_append_getElem hj', List.map_append, hz, gR_eq hj']; rfl)
          have hbT : Below wr.heap.size wr (wr.alloc (.cells #[B z] 5)) := kb1 _ _
          have HOT := Lib.hid (Kp.own (S := fun _ => False) (Kp.of_below hbT) ho2.out (fun _ _ => id))
          have HBT := Lib.hid (below_then hb2.out hbT)
          have HBK : Hid (BS (wr.alloc (.cells #[B z] 5)) (some ⟨wr.heap.size, 0, none⟩) 1 1 [z]) := Lib.hid (bs1 (Blk.new wr _ _))
          have HMM : Hid (m + 1 ≤ 140737488355328) := Lib.hid (by have := HNC.out; omega)
          clear hbT hr3 hz
          go_wp2_with (first
            | (at_builtin; refine wpList_appB _ rfl (.tmp 30) (.tmp 35) rfl w1.heap.size (.slice A2 m c2) m _ rfl HOT.out _ 1 1 [z] rfl HBK.out HMM.out HBT.out.size ?_; intro v6 w6 hp6))
          obtain ⟨m6, g6, cap6, hm6, rfl⟩ := own_form (by omega) hp6.1
          have HR6 : Hid (w6.ownsRow w1.heap.size 5 1 (.slice (some ⟨g6, 0, none⟩) m6 cap6) m6 ((y :: (co.take (j + 1)).map (fun r => gB r k)).map B)) := Lib.hid (by
            have h1 := hp6.1
            rw [HTK.out]
            rw [← hm6] at h1
            exact h1)
          have HB6 : Hid (Below w1.heap.size w1 w6) := Lib.hid (HBT.out.grown hp6.2.1 HBT.out.size (fun b hb' => own_base HOT.out b hb'))
          have hm6k : m6 = j + 1 + 1 := by omega
          clear hp6 hm6
          go_wp2_with fail
          go_roundw
          case rel => exact ⟨j + 1, m6, _, cap6, by omega, by go_num, hm6k, rfl, HR6, HB6⟩
          case measure => simp [intOf]; omega
        · obtain rfl : j = nc := by omega
          have ho3 := ho2.out
          rw [List.take_of_length_le (by rw [HLC.out]; exact Nat.le_refl _)] at ho3
          have HPS : Hid (y :: co.map (fun r => gB r k) = spP s co k) := Lib.hid (by rw [HY.out]; rfl)
          rw [HPS.out] at ho3
          obtain ⟨A2', c2', e1, b1⟩ := BS.of_own ho3 (by have := HNC.out; unfold lim; omega)
          injection e1 with e11 e12 e13
          subst e11 e13
          subst hm
          have HBP : Hid (BS wr.drew A2 (j + 1) c2 (spP s co k)) := Lib.hid b1.drew
          have hd2 := hd.out.kept hb2.out
          have q5 : wr.cell? ⟨gd, 1, none⟩ = some (.slice A k c) := by rw [hd2.cell]; rfl
          have HD2 := Lib.hid hd2
          have HO2 := Lib.hid (Kp.own (S := fun _ => False) (Kp.of_below hb2.out) ho.out (fun _ _ => id))
          have H02 := Lib.hid (h0.out.kept hb2.out)
          have HBW := Lib.hid (below_then hb.out hb2.out)
          clear hd2 b1 ho3 hd ho h0 ho2 e12
          have hx2 : x < 256 := by omega
          go_wp2_with fail
          refine Text.wp_region_text (fun w' => w'.cell? ⟨gd, 1, none⟩ = some (.slice A k c)) [(0, 4), (2, 4), (3, 4), (4, 4), (1, 0), (5, 2), (6, 2), (7, 2), (8, 4), (9, 3)] (by kernel_rfl) (by kernel_rfl) (fun _ _ _ _ _ h => h) (q5) ?_
          iterate 4 (refine Text.purek rfl rfl (fun K hK => ⟨_, fun w' => by go_simp <;> rfl, ?_⟩); go_simp; refine hK _ ?_; clear hK K)
          (refine Text.heldk rfl rfl (fun K hK => ⟨_, fun w' hw' => by go_simp <;> rfl, ?_⟩); go_simp; refine hK _ ?_; clear hK K)
          refine Text.eff rfl rfl (fun K hK => ?_)
          go_simp
          rw [HXB.out]
          refine (reval_any A2 (j + 1) c2 (spP s co k) X wr.drew HBP.out HE.out).mono ?_
          rintro e w5 ⟨rfl, d, rfl⟩
          refine hK _ _ q5 ?_
          clear hK K
          refine Text.eff rfl rfl (fun K hK => ?_)
          go_simp
          obtain ⟨Y, hY⟩ : ∃ Y, Y = rv (spP s co k) X := ⟨_, rfl⟩
          rw [← hY]
          obtain ⟨W6, hW6⟩ : ∃ W, W = (wr.drewN (1 + d)).alloc (.cells #[B Y] 5) := ⟨_, rfl⟩
          have hb6 : Below wr.heap.size wr W6 := by rw [hW6]; exact (below_drewN (Below.refl _ wr) _).alloc (Nat.le_refl _) _
          have hk6 : Blk W6 wr.heap.size 5 #[B Y] := by rw [hW6]; exact Blk.new (wr.drewN (1 + d)) _ _
          rw [← hW6]
          refine hK _ _ (cell_kept hb6 q5) ?_
          clear hK K
          have q6 := cell_kept hb6 q5
          have HBK6 : Hid (BS W6 (some ⟨wr.heap.size, 0, none⟩) 1 1 [Y]) := Lib.hid (bs1 hk6)
          have HO6 := Lib.hid (Kp.own (S := fun _ => False) (Kp.of_below hb6) HO2.out (fun _ _ => id))
          have HD6 := Lib.hid (HD2.out.kept hb6)
          have H06 := Lib.hid (H02.out.kept hb6)
          have HBW6 := Lib.hid (below_then HBW.out hb6)
          have HYY := Lib.hid hY
          clear hb6 hk6 hW6 hY
          refine Text.eff rfl rfl (fun K hK => ?_)
          have HKK : Hid (k + 1 ≤ 140737488355328) := Lib.hid (by have := HNN.out; omega)
          refine wp_appB W6 (.tmp 39) (.tmp 44) rfl w.heap.size (.slice A k c) k _ rfl HO6.out (some ⟨wr.heap.size, 0, none⟩) 1 1 [Y] rfl HBK6.out HKK.out HBW6.out.size ?_
          intro v7 w7 hp7
          obtain ⟨m7, g7, cap7, hm7, rfl⟩ := own_form (by omega) hp7.1
          subst hm7
          have hne := own_ne HO6.out HD6.out (by decide)
          have hD7 := grown_blk hp7.2.1 HD6.out hne
          have hne0 := own_ne HO6.out H06.out (by decide)
          have H07 := Lib.hid (grown_blk hp7.2.1 H06.out hne0)
          have q7 : w7.cell? ⟨gd, 1, none⟩ = some (.slice A k c) := by rw [hD7.cell]; rfl
          have q8 := hD7.frozen 1
          have HB7 : Hid (Below w.heap.size w w7) := Lib.hid (HBW6.out.grown hp7.2.1 HBW6.out.size (fun b hb' => own_base HO6.out b hb'))
          have HD7 := Lib.hid hD7
          have hK8 : Kp (fun b => b = gd) w7 (w7.setCell ⟨gd, 1, none⟩ (.slice (some ⟨g7, 0, none⟩) (k + 1) cap7)) := (Kp.refl (fun b => b = gd) w7).set (p := ⟨gd, 1, none⟩) (.inl rfl) _
          have HO8 : Hid ((w7.setCell ⟨gd, 1, none⟩ (.slice (some ⟨g7, 0, none⟩) (k + 1) cap7)).ownsRow w.heap.size 5 1 (.slice (some ⟨g7, 0, none⟩) (k + 1) cap7) (k + 1) ((spK s co X (k + 1)).map B)) := Lib.hid (by
            rw [spK_succ, ← HYY.out]
            exact hK8.own hp7.1 (fun g hg e => own_ne hp7.1 HD7.out (by decide) (by rw [hg, e])))
          have HD8 : Hid (Blk (w7.setCell ⟨gd, 1, none⟩ (.slice (some ⟨g7, 0, none⟩) (k + 1) cap7)) gd 33 #[.int .i64 x, .slice (some ⟨g7, 0, none⟩) (k + 1) cap7]) := Lib.hid (HD7.out.set_ 1 _)
          have H08 : Hid (Blk (w7.setCell ⟨gd, 1, none⟩ (.slice (some ⟨g7, 0, none⟩) (k + 1) cap7)) w.heap.size 33 #[.int .i64 0, .slice none 0 0]) := Lib.hid (hK8.blk H07.out hgw)
          have HB8 : Hid (Below w.heap.size w (w7.setCell ⟨gd, 1, none⟩ (.slice (some ⟨g7, 0, none⟩) (k + 1) cap7))) := Lib.hid (HB7.out.setCell (show w.heap.size ≤ gd by have := HGD.out; omega) _)
          refine hK _ _ q7 ?_
          clear hK K hne hne0 hD7 hp7 hK8
          (refine Text.purek rfl rfl (fun K hK => ⟨_, fun w' => by go_simp <;> rfl, ?_⟩); go_simp; refine hK _ ?_; clear hK K)
          refine Text.last rfl rfl (fun K hK => ?_)
          go_simp
          refine hK _ _ ?_
          clear hK K
          refine Text.done ?_
          go_wp2_with fail
          go_roundw
          case rel => exact ⟨k + 1, _, cap7, by omega, by go_num, HD8, HO8, H08, HB8⟩
          case measure => simp [intOf]; omega
    · obtain rfl : k = n := by omega
      have q6 : wr.cell? ⟨gd, 0, none⟩ = some (.int .i64 x) := by rw [hd.out.cell]; rfl
      have q7 : wr.cell? ⟨gd, 1, none⟩ = some (.slice A k c) := by rw [hd.out.cell]; rfl
      have q8 : wr.cell? ⟨w.heap.size, 0, none⟩ = some (.int .i64 0) := by rw [h0.out.cell]; rfl
      have q9 := h0.out.frozen 0
      have h1 := h0.out.set_ 0 (.int .i64 x)
      have q10 : (wr.setCell ⟨w.heap.size, 0, none⟩ (.int .i64 x)).cell? ⟨w.heap.size, 1, none⟩ = some (.slice none 0 0) := by rw [h1.cell]; rfl
      have q11 := h1.frozen 1
      have h2 := h1.set_ 1 (.slice A k c)
      have q12 : ((wr.setCell ⟨w.heap.size, 0, none⟩ (.int .i64 x)).setCell ⟨w.heap.size, 1, none⟩ (.slice A k c)).cell? ⟨w.heap.size, 0, none⟩ = some (.int .i64 x) := by rw [h2.cell]; rfl
      have q13 : ((wr.setCell ⟨w.heap.size, 0, none⟩ (.int .i64 x)).setCell ⟨w.heap.size, 1, none⟩ (.slice A k c)).cell? ⟨w.heap.size, 1, none⟩ = some (.slice A k c) := by rw [h2.cell]; rfl
      clear h1 h2
      go_wp2_with fail
      refine bodyPost_ret (v := .agg #[.int .i64 x, .slice A k c]) (by simp [results, Try.results16, go_sem, q12, q13]) rfl ?_
      have hK : Kp (fun b => b = w.heap.size) wr ((wr.setCell ⟨w.heap.size, 0, none⟩ (.int .i64 x)).setCell ⟨w.heap.size, 1, none⟩ (.slice A k c)) := ((Kp.refl (fun b => b = w.heap.size) wr).set (p := ⟨w.heap.size, 0, none⟩) (.inl rfl) _).set (p := ⟨w.heap.size, 1, none⟩) (.inl rfl) _
      have hO := hK.own ho.out (fun g hg e => own_ne ho.out h0.out (by decide) (by rw [hg, e]))
      obtain ⟨A', c', e1, b1⟩ := BS.of_own hO (by have := HNN.out; unfold lim; omega)
      injection e1 with e11 e12 e13
      subst e11 e13
      refine ⟨A, c, by rw [spK_length], by rw [spK_length]; exact b1, (hb.out.setCell (Nat.le_refl _) _).setCell (Nat.le_refl _) _, fun h0' a ea => ?_⟩
      rw [ea] at hO
      exact own_base hO a.block rfl
end Go.Proofs.Ytakedococfklgaa
