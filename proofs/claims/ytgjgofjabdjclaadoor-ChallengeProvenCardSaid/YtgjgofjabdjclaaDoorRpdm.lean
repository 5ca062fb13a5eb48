/- Contract of ref03.Pad. -/
import Derived.Test.YtgjgofjabdjclaaDoorA11
import Derived.Test.YtgjgofjabdjclaaDoorA14
namespace Go.Proofs.YtgjgofjabdjclaaDoor
open Go Go.RowKit Gf Sha

/-- x and its padding while it is being made. -/
def pdz (x : List UInt8) (k : Nat) : List UInt8 := x ++ padz k
def pdc (x : List UInt8) (i : Nat) : List UInt8 := x ++ padc x.length i
theorem pdz_succ (x : List UInt8) (k : Nat) : pdz x k ++ [0] = pdz x (k + 1) := by rw [pdz, pdz, List.append_assoc, padz_succ]
theorem pdc_succ (x : List UInt8) (i : Nat) : pdc x i ++ [cb x.length i] = pdc x (i + 1) := by rw [pdc, pdc, List.append_assoc, padc_succ]
theorem pdz_zero (x : List UInt8) : pdz x 0 = x ++ [128] := rfl
theorem pdc_zero (x : List UInt8) : pdc x 0 = pdz x (zr x.length) := by rw [pdc, pdz, padc_zero]
theorem pdc_all (x : List UInt8) : pdc x 8 = x ++ padding x.length := by rw [pdc, padding_padc]

set_option maxRecDepth 100000 in
set_option maxHeartbeats 2000000 in
theorem rpad_any (A : Option Addr) (n c : Nat) (l : List UInt8) (w : World) (h : BS w A n c l) (hN : n ≤ 1048576) :
    Calls Tryd.prog 74 #[.slice A n c] w fun e w' => (∃ g m c', e = .returned (.slice (some ⟨g, 0, none⟩) m c') ∧ m = n + (zr n + 9) ∧ w'.ownsRow w.heap.size 5 1 (.slice (some ⟨g, 0, none⟩) m c') m ((l ++ padding n).map B)) ∧ Below w.heap.size w w' := by
  have HLN := Lib.hid h.1
  have hln := h.1
  have hn0 : 0 ≤ (n : Int) := by omega
  have HL0 : Hid (BS (w.alloc (.cells #[] 5)) A n c l) := Lib.hid (h.kept ((Below.refl _ _).alloc (Nat.le_refl _) _))
  have HO0 : Hid ((w.alloc (.cells #[] 5)).ownsRow w.heap.size 5 1 (.slice (some ⟨w.heap.size, 0, none⟩) 0 0) 0 (([] : List UInt8).map B)) := Lib.hid (BL.own (BL.new w 5 []) (Nat.le_refl _) rfl (by decide))
  have HX0 : Hid (Below w.heap.size w (w.alloc (.cells #[] 5))) := Lib.hid ((Below.refl _ _).alloc (Nat.le_refl _) _)
  clear h hln
  go_enter Tryd.func74, Tryd.ntmps74
  go_wp2_with (first
    | ((with_reducible show wpList _ _ _ (⟨some 8, _, _, _, _, _⟩ :: _) _ _); refine wpList_appB _ rfl (.tmp 6) (.tmp 7) rfl w.heap.size _ 0 [] rfl HO0.out A n c l rfl HL0.out (by omega) (by simp) ?_; intro v1 w1 hp; have HO1 : Hid (w1.ownsRow w.heap.size 5 1 v1 (0 + n) (l.map B)) := Lib.hid (by have := hp.own; rwa [List.nil_append] at this); have HB1 := Lib.hid (hp.below HO0.out HX0.out (Nat.le_refl _) (by simp)); clear hp)
    | ((with_reducible show wpList _ _ _ (⟨some 10, _, _, _, _, _⟩ :: _) _ _); refine wpList_app1 _ rfl (.tmp 8) (.tmp 9) 22 5 (.int .u8 0) 1 Tryd.underlying22 infoU8 rfl rfl w.heap.size _ (0 + n) _ rfl (HO1.out.kept (World.grownBy_alloc w1 (.cells #[.int .u8 128] 5) none) (by simp; exact Classical.em _)) w1.heap.size 1 5 (B 128) rfl (Blk.new w1 5 #[B 128]) rfl (by omega) (by omega) (by have := HB1.out.size; simp; omega) ?_; intro v2 w2 hp; have HP2 := Lib.hid hp; clear hp))
  obtain ⟨g2, c2, rfl⟩ := HP2.out.form (by omega)
  have HO2 : Hid (w2.ownsRow w.heap.size 5 1 (.slice (some ⟨g2, 0, none⟩) (n + 1) c2) (n + 1) ((pdz l 0).map B)) := Lib.hid (by have := HP2.out.own; rw [Nat.zero_add] at this; rw [pdz_zero, List.map_append]; exact this)
  have HB2 : Hid (Below w.heap.size w w2) := Lib.hid (HP2.out.below (HO1.out.kept (World.grownBy_alloc w1 (.cells #[.int .u8 128] 5) none) (by simp; exact Classical.em _)) (HB1.out.alloc HB1.out.size _) (Nat.le_refl _) (by have := HB1.out.size; simp; omega))
  rw [Nat.zero_add]
  have hz := zr_lt n
  clear HP2 HO1 HB1 HL0 HO0 HX0
  go_loopw [3] (fun v wr => ∃ (k m g4 c4 : Nat), k ≤ zr n ∧ m ≤ n + 64 ∧ v = .slice (some ⟨g4, 0, none⟩) m c4 ∧ Hid (m = n + (k + 1)) ∧ Hid (wr.ownsRow w.heap.size 5 1 (.slice (some ⟨g4, 0, none⟩) m c4) m ((pdz l k).map B)) ∧ Hid (Below w.heap.size w wr)) (fun v _ => n + 65 - lenV v)
  case atStart => exact ⟨0, n + 1, _, _, by omega, by omega, by go_num, Lib.hid rfl, HO2, HB2⟩
  case round =>
    obtain ⟨k, m, g4, c4, hk, hm64, rfl, hm, ho, hbw⟩ := hrel
    have hm0 : 0 ≤ (m : Int) := by omega
    have hm1 : (m : Int) ≤ 1048640 := by omega
    by_cases hlt : k < zr n
    · have ht : ((m : Int) % 64 != 56) = true := by
        have := zr_spec n k hlt
        have e := hm.out
        simp only [bne_iff_ne, ne_eq]; omega
      have hm2 : m < n + 64 := by have := hm.out; omega
      have HBB := Lib.hid (hbw.out.alloc hbw.out.size (.cells #[.int .u8 0] 5))
      have HOO := Lib.hid (ho.out.kept (World.grownBy_alloc wr (.cells #[.int .u8 0] 5) none) (by simp [Value.ownBlock]))
      have HBK : Hid (Blk (wr.alloc (.cells #[.int .u8 0] 5)) wr.heap.size 5 #[B 0]) := Lib.hid (Blk.new wr 5 #[B 0])
      go_wp2_with ((with_reducible show wpList _ _ _ (⟨some 17, _, _, _, _, _⟩ :: _) _ _); refine wpList_app1 _ rfl (.tmp 15) (.tmp 16) 22 5 (.int .u8 0) 1 Tryd.underlying22 infoU8 rfl rfl w.heap.size _ m _ rfl HOO.out wr.heap.size 1 5 (B 0) rfl HBK.out rfl (by omega) (by omega) HBB.out.size ?_; intro v6 w6 hp)
      obtain ⟨g6, c6, rfl⟩ := hp.form (by omega)
      have HO6 : Hid (w6.ownsRow w.heap.size 5 1 (.slice (some ⟨g6, 0, none⟩) (m + 1) c6) (m + 1) ((pdz l (k + 1)).map B)) := Lib.hid (by have := hp.own; rw [← pdz_succ, List.map_append]; exact this)
      have HB6 := Lib.hid (hp.below HOO.out HBB.out (Nat.le_refl _) HBB.out.size)
      clear hp ht
      go_wp2_with fail
      go_roundw
      case rel => exact ⟨k + 1, m + 1, _, _, by omega, by omega, rfl, Lib.hid (by rw [hm.out]; omega), HO6, HB6⟩
      case measure => simp [lenV]; omega
    · obtain rfl : k = zr n := by omega
      have ht : ((m : Int) % 64 != 56) = false := by
        have := zr_end n
        have e := hm.out
        simp only [bne_eq_false_iff_eq]; omega
      go_wp2_with fail
      clear ht
      have HB4 := Lib.hid hbw.out
      have HOI : Hid (wr.ownsRow w.heap.size 5 1 (.slice (some ⟨g4, 0, none⟩) m c4) m ((pdc l 0).map B)) := Lib.hid (by rw [pdc_zero, HLN.out]; exact ho.out)
      go_loopw [3, 5] (fun v sh wx => ∃ (i m g5 c5 : Nat) (z : Int), i ≤ 8 ∧ m ≤ n + 72 ∧ z + i ≤ 7 ∧ 7 ≤ z + i ∧ sh = .int .i64 z ∧ v = .slice (some ⟨g5, 0, none⟩) m c5 ∧ Hid (m = n + (zr n + 1 + i)) ∧ Hid (wx.ownsRow w.heap.size 5 1 (.slice (some ⟨g5, 0, none⟩) m c5) m ((pdc l i).map B)) ∧ Hid (Below w.heap.size w wx)) (fun _ sh _ => (intOf sh + 1).toNat)
      case atStart => exact ⟨0, m, _, _, 7, by omega, by omega, by omega, by omega, rfl, rfl, Lib.hid (by rw [hm.out]), HOI, HB4⟩
      case round =>
        obtain ⟨i, m, g5, c5, z, hi, hm72, hz1, hz2, rfl, rfl, hmi, ho5, hb5⟩ := hrel
        obtain ⟨wx, hwx⟩ : ∃ x, x = wr := ⟨_, rfl⟩
        rw [← hwx] at ho5 hb5 ⊢
        clear hwx
        by_cases hlt : i < 8
        · have hz0 : 0 ≤ z := by omega
          have hz8 : IntKind.i64.wrap (8 * z) = 8 * z := by rw [IntWalk.i64_in _ (by omega)]
          have hm2 : m < n + 72 := by have := hmi.out; omega
          have HBB := Lib.hid (hb5.out.alloc hb5.out.size (.cells #[B (cb n i)] 5))
          have HOO := Lib.hid (ho5.out.kept (World.grownBy_alloc wx (.cells #[B (cb n i)] 5) none) (by simp [Value.ownBlock]))
          have HBK : Hid (Blk (wx.alloc (.cells #[B (cb n i)] 5)) wx.heap.size 5 #[B (cb n i)]) := Lib.hid (Blk.new wx 5 #[B (cb n i)])
          go_wp2_with (first
            | ((with_reducible show wpList _ _ _ (⟨some 30, _, _, _, _, _⟩ :: _) _ _); refine wpList_shrN _ rfl (.tmp 27) (.tmp 29) _ _ rfl .i64 (n * 8) (56 - 8 * i) _ (8 * z) rfl rfl (by omega) (by omega) (by omega) ?_)
            | ((with_reducible show wpList _ _ _ (⟨some 31, _, _, _, _, _⟩ :: _) _ _); refine wpList_u8N _ rfl (.tmp 30) 85 5 rfl _ .u64 Tryd.underlying85 Tryd.underlying5 _ _ rfl rfl ?_; rw [show UInt8.ofNat ((n * 8) >>> (56 - 8 * i)) = cb n i from rfl])
            | ((with_reducible show wpList _ _ _ (⟨some 33, _, _, _, _, _⟩ :: _) _ _); refine wpList_app1 _ rfl (.tmp 26) (.tmp 32) 22 5 (.int .u8 0) 1 Tryd.underlying22 infoU8 rfl rfl w.heap.size _ m _ rfl HOO.out wx.heap.size 1 5 (B (cb n i)) rfl HBK.out rfl (by omega) (by omega) HBB.out.size ?_; intro v6 w6 hp))
          obtain ⟨g6, c6, rfl⟩ := hp.form (by omega)
          have HO6 : Hid (w6.ownsRow w.heap.size 5 1 (.slice (some ⟨g6, 0, none⟩) (m + 1) c6) (m + 1) ((pdc l (i + 1)).map B)) := Lib.hid (by have := hp.own; rw [← pdc_succ, List.map_append, HLN.out]; exact this)
          have HB6 := Lib.hid (hp.below HOO.out HBB.out (Nat.le_refl _) HBB.out.size)
          clear hp
          go_wp2_with fail
          go_roundw
          case rel => exact ⟨i + 1, m + 1, _, _, z - 1, by omega, by omega, by omega, by omega, by go_num, rfl, Lib.hid (by rw [hmi.out]; omega), HO6, HB6⟩
          case measure => simp [intOf]; omega
        · obtain rfl : i = 8 := by omega
          have hz0 : z < 0 := by omega
          go_wp2_with fail
          go_ret
          exact ⟨⟨g5, m, c5, rfl, by have := hmi.out; omega, by have := ho5.out; rw [pdc_all, HLN.out] at this; exact this⟩, hb5.out⟩
end Go.Proofs.YtgjgofjabdjclaaDoor
