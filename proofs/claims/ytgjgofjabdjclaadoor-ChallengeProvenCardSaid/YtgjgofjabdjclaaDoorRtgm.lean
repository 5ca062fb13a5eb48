/- Contracts of ref05.pad and ref05.Tag for keys of at most 64 bytes. -/
import Derived.Test.YtgjgofjabdjclaaDoorRsmm
import Derived.Test.YtgjgofjabdjclaaDoorA10
import Derived.Test.YtgjgofjabdjclaaDoorA12
import Derived.Test.YtgjgofjabdjclaaDoorA13
namespace Go.Proofs.YtgjgofjabdjclaaDoor
open Go Go.RowKit Gf Sha

attribute [local go_sem] Gf.xor_bits
theorem xor0_b (x : UInt8) : bits .xor .u8 0 (bv x) = bv x := by
  have h := Gf.xor_bits 0 x
  have e : bv 0 = 0 := rfl
  rw [e] at h
  rw [h, UInt8.zero_xor]
attribute [local go_sem] xor0_b
theorem keyp_low {k : List UInt8} {j : Nat} (h : j < k.length) : gB (keyp k) j = gB k j := by
  rw [gB, gB, List.getD_eq_getElem?_getD, List.getD_eq_getElem?_getD, keyp, List.getElem?_append_left h]
theorem keyp_high {k : List UInt8} {j : Nat} (h : k.length ≤ j) : gB (keyp k) j = 0 := by
  rw [gB, List.getD_eq_getElem?_getD, keyp, List.getElem?_append_right h, List.getElem?_replicate]
  split <;> rfl
theorem xr_snoc (x : UInt8) (f : List UInt8) (k : Nat) (h : k < f.length) : (xr x f).take k ++ [gB f k ^^^ x] = (xr x f).take (k + 1) := by
  rw [List.take_succ_eq_append_getElem (by rw [xr_length]; exact h), gB_eq h]
  simp [xr]

set_option maxRecDepth 100000 in
set_option maxHeartbeats 1000000 in
theorem rpad5_any (key : List UInt8) (x : UInt8) (v : Value) (hv : v = B x) (w : World) (hk : key.length ≤ 64) :
    Calls Tryd.prog 79 #[.string (strB key), v] w fun e w' => (∃ g c', e = .returned (.slice (some ⟨g, 0, none⟩) 64 c') ∧ w'.ownsRow w.heap.size 5 1 (.slice (some ⟨g, 0, none⟩) 64 c') 64 ((xr x (keyp key)).map B)) ∧ Below w.heap.size w w' := by
  subst hv
  have HK := Lib.hid hk
  have HKL : Hid ((keyp key).length = 64) := Lib.hid (keyp_length key hk)
  have HO0 : Hid ((w.alloc (.cells #[] 5)).ownsRow w.heap.size 5 1 (.slice (some ⟨w.heap.size, 0, none⟩) 0 0) 0 (((xr x (keyp key)).take 0).map B)) := Lib.hid (BL.own (BL.new w 5 []) (Nat.le_refl _) rfl (by decide))
  have HX0 : Hid (Below w.heap.size w (w.alloc (.cells #[] 5))) := Lib.hid ((Below.refl _ _).alloc (Nat.le_refl _) _)
  clear hk
  go_enter Tryd.func79, Tryd.ntmps79
  go_wp2_with fail
  go_loopw [5, 6] (fun v i wr => ∃ (k g4 c4 : Nat), k ≤ 64 ∧ i = .int .i64 (k : Int) ∧ v = .slice (some ⟨g4, 0, none⟩) k c4 ∧ Hid (wr.ownsRow w.heap.size 5 1 (.slice (some ⟨g4, 0, none⟩) k c4) k (((xr x (keyp key)).take k).map B)) ∧ Hid (Below w.heap.size w wr)) (fun _ i _ => 64 - (intOf i).toNat)
  case atStart => exact ⟨0, _, _, by omega, rfl, rfl, HO0, HX0⟩
  case round =>
    obtain ⟨k, g4, c4, hk, rfl, rfl, ho, hb⟩ := hrel
    obtain ⟨wx, hwx⟩ : ∃ x, x = wr := ⟨_, rfl⟩
    rw [← hwx] at ho hb ⊢
    clear hwx
    by_cases hlt : k < 64
    · obtain ⟨y, hy⟩ : ∃ y, y = gB (keyp key) k ^^^ x := ⟨_, rfl⟩
      have HBB := Lib.hid (hb.out.alloc hb.out.size (.cells #[B y] 5))
      have HOO := Lib.hid (ho.out.kept (World.grownBy_alloc wx (.cells #[B y] 5) none) (by simp [Value.ownBlock]))
      have HBK : Hid (Blk (wx.alloc (.cells #[B y] 5)) wx.heap.size 5 #[B y]) := Lib.hid (Blk.new wx 5 #[B y])
      have HYS : Hid ((xr x (keyp key)).take k ++ [y] = (xr x (keyp key)).take (k + 1)) := Lib.hid (by rw [hy]; exact xr_snoc x _ k (by rw [HKL.out]; exact hlt))
      by_cases hkl : k < key.length
      · have hy2 : gB key k ^^^ x = y := by rw [hy, keyp_low hkl]
        have f1 : k < (strB key).size := by rw [strB_size]; exact hkl
        clear hy
        go_wp2_with (first
          | ((with_reducible show wpList _ _ _ (⟨some 19, _, _, _, _, _⟩ :: _) _ _); refine wpList_idxS _ rfl (.tmp 17) (.tmp 18) 9 rfl Tryd.underlying9 key k _ rfl rfl rfl hkl ?_)
          | ((with_reducible show wpList _ _ _ (⟨some 25, _, _, _, _, _⟩ :: _) _ _); refine wpList_app1 _ rfl (.tmp 20) (.tmp 24) 22 5 (.int .u8 0) 1 Tryd.underlying22 infoU8 rfl rfl w.heap.size _ k _ rfl HOO.out wx.heap.size 1 5 (B y) rfl HBK.out rfl (by omega) (by omega) HBB.out.size ?_; intro v6 w6 hp))
        obtain ⟨g6, c6, rfl⟩ := hp.form (by omega)
        have HO6 : Hid (w6.ownsRow w.heap.size 5 1 (.slice (some ⟨g6, 0, none⟩) (k + 1) c6) (k + 1) (((xr x (keyp key)).take (k + 1)).map B)) := Lib.hid (by have := hp.own; rw [← HYS.out, List.map_append]; exact this)
        have HB6 := Lib.hid (hp.below HOO.out HBB.out (Nat.le_refl _) HBB.out.size)
        clear hp
        go_roundw
        case rel => exact ⟨k + 1, _, _, by omega, by go_num, rfl, HO6, HB6⟩
        case measure => simp [intOf]; omega
      · have hy2 : x = y := by rw [hy, keyp_high (by omega), UInt8.zero_xor]
        have f1 : ¬ k < (strB key).size := by rw [strB_size]; exact hkl
        clear hy
        subst hy2
        go_wp2_with ((with_reducible show wpList _ _ _ (⟨some 25, _, _, _, _, _⟩ :: _) _ _); refine wpList_app1 _ rfl (.tmp 20) (.tmp 24) 22 5 (.int .u8 0) 1 Tryd.underlying22 infoU8 rfl rfl w.heap.size _ k _ rfl HOO.out wx.heap.size 1 5 (B x) rfl HBK.out rfl (by omega) (by omega) HBB.out.size ?_; intro v6 w6 hp)
        obtain ⟨g6, c6, rfl⟩ := hp.form (by omega)
        have HO6 : Hid (w6.ownsRow w.heap.size 5 1 (.slice (some ⟨g6, 0, none⟩) (k + 1) c6) (k + 1) (((xr x (keyp key)).take (k + 1)).map B)) := Lib.hid (by have := hp.own; rw [← HYS.out, List.map_append]; exact this)
        have HB6 := Lib.hid (hp.below HOO.out HBB.out (Nat.le_refl _) HBB.out.size)
        clear hp
        go_roundw
        case rel => exact ⟨k + 1, _, _, by omega, by go_num, rfl, HO6, HB6⟩
        case measure => simp [intOf]; omega
    · obtain rfl : k = 64 := by omega
      go_wp2_with fail
      go_ret
      exact ⟨⟨g4, c4, rfl, by have := ho.out; rw [List.take_of_length_le (by rw [xr_length, HKL.out]; exact Nat.le_refl _)] at this; exact this⟩, hb.out⟩

theorem m54 : Value.int .u8 54 = B 0x36 := rfl
theorem m92 : Value.int .u8 92 = B 0x5c := rfl
set_option maxRecDepth 100000 in
set_option maxHeartbeats 1000000 in
theorem rtag_any (A : Option Addr) (n c : Nat) (key l : List UInt8) (w : World) (h : BS w A n c l) (hk : key.length ≤ 64) (hN : n ≤ 1000000) :
    Calls Tryd.prog 51 #[.string (strB key), .slice A n c] w fun e w' => e = .returned (.string (strB (tagL key l))) ∧ Below w.heap.size w w' := by
  have HK := Lib.hid hk
  have H := Lib.hid h
  have f1 : ¬ 64 < (strB key).size := by rw [strB_size]; omega
  have HIl : Hid ((xr 0x36 (keyp key)).length = 64) := Lib.hid (by rw [xr_length, keyp_length key hk])
  have HOl : Hid ((xr 0x5c (keyp key)).length = 64) := Lib.hid (by rw [xr_length, keyp_length key hk])
  have HTL : Hid (tagL key l = sha (xr 0x5c (keyp key) ++ sha (xr 0x36 (keyp key) ++ l))) := Lib.hid rfl
  obtain ⟨R, hR⟩ : ∃ R, R = tagL key l := ⟨_, rfl⟩
  rw [← hR] at HTL ⊢
  clear h hk hR
  go_enter Tryd.func51, Tryd.ntmps51
  go_wp2_with (first
    | (go_at_call 79; (with_reducible show Calls _ _ _ w _); refine (rpad5_any key 0x36 _ m54 w HK.out).mono ?_; rintro e w1 ⟨⟨g1, c1, rfl, o⟩, b⟩; have HO1 := Lib.hid o; have HB1 := Lib.hid b; clear o b)
    | ((with_reducible show wpList _ _ _ (⟨some 15, _, _, _, _, _⟩ :: _) _ _); refine wpList_appB _ rfl (.tmp 13) (.tmp 14) rfl w.heap.size _ 64 _ rfl HO1.out A n c l rfl (H.out.kept HB1.out) (by omega) HB1.out.size ?_; intro v2 w2 hp; have HO2 := Lib.hid hp.own; have HB2 := Lib.hid (hp.below HO1.out HB1.out (Nat.le_refl _) HB1.out.size); obtain ⟨A2, c2, rfl, b2⟩ := BS.of_own hp.own (by unfold lim; omega); have HS2 := Lib.hid b2; clear hp b2)
    | (go_at_call 48; (with_reducible show Calls _ _ _ w2 _); refine (rsum_any A2 (64 + n) c2 _ w2 HS2.out (by omega)).mono ?_; rintro e w3 ⟨rfl, b⟩; have HB3 := Lib.hid (below_then HB2.out b); clear b))
  obtain ⟨S, hS⟩ : ∃ S, S = sha (xr 0x36 (keyp key) ++ l) := ⟨_, rfl⟩
  have HSl : Hid (S.length = 32) := Lib.hid (by rw [hS]; exact sha_length _)
  rw [← hS] at HTL ⊢
  clear hS HO2 HS2 HO1 HB1 HB2
  go_wp2_with (first
    | (go_at_call 79; (with_reducible show Calls _ _ _ w3 _); refine (rpad5_any key 0x5c _ m92 w3 HK.out).mono ?_; rintro e w4 ⟨⟨g4, c4, rfl, o⟩, b⟩; have HO4 := Lib.hid o; have HB4 := Lib.hid b; clear o b)
    | ((with_reducible show wpList _ _ _ (⟨some 20, _, _, _, _, _⟩ :: _) _ _); refine wpList_convB _ rfl (.tmp 19) rfl S rfl ?_; intro w5 cap hc; have HC5 := Lib.hid hc; have HO5 := Lib.hid (own_below HO4.out hc.2.2.1); have HB5 := Lib.hid (below_thenB HB4.out HB4.out.size hc.2.2.1); clear hc)
    | ((with_reducible show wpList _ _ _ (⟨some 21, _, _, _, _, _⟩ :: _) _ _); refine wpList_appB _ rfl (.tmp 18) (.tmp 20) rfl w3.heap.size _ 64 _ rfl HO5.out _ S.length cap S rfl (HC5.out.bs (by rw [HSl.out]; decide)) (by rw [HSl.out]; decide) HB5.out.size ?_; intro v6 w6 hp; have HB6 := Lib.hid (hp.below HO5.out HB5.out (Nat.le_refl _) HB5.out.size); obtain ⟨A6, c6, rfl, b6⟩ := BS.of_own hp.own (by rw [HSl.out]; decide); have HS6 := Lib.hid b6; clear hp b6)
    | (go_at_call 48; refine (rsum_any A6 (64 + S.length) c6 _ w6 HS6.out (by rw [HSl.out]; decide)).mono ?_; rintro e w7 ⟨rfl, b⟩; have HB7 := Lib.hid (below_thenB HB6.out HB6.out.size b); clear b))
  go_ret
  exact ⟨by rw [HTL.out]; rfl, below_then HB3.out HB7.out⟩
end Go.Proofs.YtgjgofjabdjclaaDoor
