/- Several texts in one: Rtg, Rnu, Ch2, Rvk, Rno, Rnc, Rtk. -/
import Derived.Test.YtgjgofjabdjclaaDoorA20
import Derived.Test.YtgjgofjabdjclaaDoorA10
import Derived.Test.YtgjgofjabdjclaaDoorA12
import Derived.Test.YtgjgofjabdjclaaDoorA13
import Derived.Test.YtgjgofjabdjclaaDoorA11
import Derived.Test.YtgjgofjabdjclaaDoorA14
import Derived.Test.YtgjgofjabdjclaaDoorA18
/- Contracts of ref05.pad and ref05.Tag for keys of at most 64 bytes. -/
namespace Go.Proofs.YtgjgofjabdjclaaDoor
open Go Go.RowKit Gf Sha

attribute [local go_sem] Gf.xor_bits
theorem xor0_b (x : UInt8) : bits .xor .u8 0 (bv x) = bv x := by
  have h := Gf.xor_bits 0 x
  have e : bv 0 = 0 := rfl
  rw [e] at h
  rw [h, UInt8.zero_xor]
attribute [local go_sem] xor0_b
theorem keyp_low {k : List UInt8} {j : Nat} (h : j < k.length) : gB (keyp k) j = gB k j := by
  rw [gB, gB, List.getD_eq_getElem?_getD, List.getD_eq_getElem?_getD, keyp, List.getElem?_append_left h]
theorem keyp_high {k : List UInt8} {j : Nat} (h : k.length ≤ j) : gB (keyp k) j = 0 := by
  rw [gB, List.getD_eq_getElem?_getD, keyp, List.getElem?_append_right h, List.getElem?_replicate]
  split <;> rfl
theorem xr_snoc (x : UInt8) (f : List UInt8) (k : Nat) (h : k < f.length) : (xr x f).take k ++ [gB f k ^^^ x] = (xr x f).take (k + 1) := by
  rw [List.take_succ_eq_append_getElem (by rw [xr_length]; exact h), gB_eq h]
  simp [xr]

set_option maxRecDepth 100000 in
set_option maxHeartbeats 1000000 in
theorem rpad5_any (key : List UInt8) (x : UInt8) (v : Value) (hv : v = B x) (w : World) (hk : key.length ≤ 64) :
    Calls Tryd.prog 79 #[.string (strB key), v] w fun e w' => (∃ g c', e = .returned (.slice (some ⟨g, 0, none⟩) 64 c') ∧ w'.ownsRow w.heap.size 5 1 (.slice (some ⟨g, 0, none⟩) 64 c') 64 ((xr x (keyp key)).map B)) ∧ Below w.heap.size w w' := by
  subst hv
  have HK := Lib.hid hk
  have HKL : Hid ((keyp key).length = 64) := Lib.hid (keyp_length key hk)
  have HO0 : Hid ((w.alloc (.cells #[] 5)).ownsRow w.heap.size 5 1 (.slice (some ⟨w.heap.size, 0, none⟩) 0 0) 0 (((xr x (keyp key)).take 0).map B)) := Lib.hid (BL.own (BL.new w 5 []) (Nat.le_refl _) rfl (by decide))
  have HX0 : Hid (Below w.heap.size w (w.alloc (.cells #[] 5))) := Lib.hid ((Below.refl _ _).alloc (Nat.le_refl _) _)
  clear hk
  go_enter Tryd.func79, Tryd.ntmps79
  go_wp2_with fail
  go_loopw [5, 6] (fun v i wr => ∃ (k g4 c4 : Nat), k ≤ 64 ∧ i = .int .i64 (k : Int) ∧ v = .slice (some ⟨g4, 0, none⟩) k c4 ∧ Hid (wr.ownsRow w.heap.size 5 1 (.slice (some ⟨g4, 0, none⟩) k c4) k (((xr x (keyp key)).take k).map B)) ∧ Hid (Below w.heap.size w wr)) (fun _ i _ => 64 - (intOf i).toNat)
  case atStart => exact ⟨0, _, _, by omega, rfl, rfl, HO0, HX0⟩
  case round =>
    obtain ⟨k, g4, c4, hk, rfl, rfl, ho, hb⟩ := hrel
    obtain ⟨wx, hwx⟩ : ∃ x, x = wr := ⟨_, rfl⟩
    rw [← hwx] at ho hb ⊢
    clear hwx
    by_cases hlt : k < 64
    · obtain ⟨y, hy⟩ : ∃ y, y = gB (keyp key) k ^^^ x := ⟨_, rfl⟩
      have HBB := Lib.hid (hb.out.alloc hb.out.size (.cells #[B y] 5))
      have HOO := Lib.hid (ho.out.kept (World.grownBy_alloc wx (.cells #[B y] 5) none) (by simp [Value.ownBlock]))
      have HBK : Hid (Blk (wx.alloc (.cells #[B y] 5)) wx.heap.size 5 #[B y]) := Lib.hid (Blk.new wx 5 #[B y])
      have HYS : Hid ((xr x (keyp key)).take k ++ [y] = (xr x (keyp key)).take (k + 1)) := Lib.hid (by rw [hy]; exact xr_snoc x _ k (by rw [HKL.out]; exact hlt))
      by_cases hkl : k < key.length
      · have hy2 : gB key k ^^^ x = y := by rw [hy, keyp_low hkl]
        have f1 : k < (strB key).size := by rw [strB_size]; exact hkl
        clear hy
        go_wp2_with (first
          | ((with_reducible show wpList _ _ _ (⟨some 19, _, _, _, _, _⟩ :: _) _ _); refine wpList_idxS _ rfl (.tmp 17) (.tmp 18) 9 rfl Tryd.underlying9 key k _ rfl rfl rfl hkl ?_)
          | ((with_reducible show wpList _ _ _ (⟨some 25, _, _, _, _, _⟩ :: _) _ _); refine wpList_app1 _ rfl (.tmp 20) (.tmp 24) 22 5 (.int .u8 0) 1 Tryd.underlying22 infoU8 rfl rfl w.heap.size _ k _ rfl HOO.out wx.heap.size 1 5 (B y) rfl HBK.out rfl (by omega) (by omega) HBB.out.size ?_; intro v6 w6 hp))
        obtain ⟨g6, c6, rfl⟩ := hp.form (by omega)
        have HO6 : Hid (w6.ownsRow w.heap.size 5 1 (.slice (some ⟨g6, 0, none⟩) (k + 1) c6) (k + 1) (((xr x (keyp key)).take (k + 1)).map B)) := Lib.hid (by have := hp.own; rw [← HYS.out, List.map_append]; exact this)
        have HB6 := Lib.hid (hp.below HOO.out HBB.out (Nat.le_refl _) HBB.out.size)
        clear hp
        go_roundw
        case rel => exact ⟨k + 1, _, _, by omega, by go_num, rfl, HO6, HB6⟩
        case measure => simp [intOf]; omega
      · have hy2 : x = y := by rw [hy, keyp_high (by omega), UInt8.zero_xor]
        have f1 : ¬ k < (strB key).size := by rw [strB_size]; exact hkl
        clear hy
        subst hy2
        go_wp2_with ((with_reducible show wpList _ _ _ (⟨some 25, _, _, _, _, _⟩ :: _) _ _); refine wpList_app1 _ rfl (.tmp 20) (.tmp 24) 22 5 (.int .u8 0) 1 Tryd.underlying22 infoU8 rfl rfl w.heap.size _ k _ rfl HOO.out wx.heap.size 1 5 (B x) rfl HBK.out rfl (by omega) (by omega) HBB.out.size ?_; intro v6 w6 hp)
        obtain ⟨g6, c6, rfl⟩ := hp.form (by omega)
        have HO6 : Hid (w6.ownsRow w.heap.size 5 1 (.slice (some ⟨g6, 0, none⟩) (k + 1) c6) (k + 1) (((xr x (keyp key)).take (k + 1)).map B)) := Lib.hid (by have := hp.own; rw [← HYS.out, List.map_append]; exact this)
        have HB6 := Lib.hid (hp.below HOO.out HBB.out (Nat.le_refl _) HBB.out.size)
        clear hp
        go_roundw
        case rel => exact ⟨k + 1, _, _, by omega, by go_num, rfl, HO6, HB6⟩
        case measure => simp [intOf]; omega
    · obtain rfl : k = 64 := by omega
      go_wp2_with fail
      go_ret
      exact ⟨⟨g4, c4, rfl, by have := ho.out; rw [List.take_of_length_le (by rw [xr_length, HKL.out]; exact Nat.le_refl _)] at this; exact this⟩, hb.out⟩

theorem m54 : Value.int .u8 54 = B 0x36 := rfl
theorem m92 : Value.int .u8 92 = B 0x5c := rfl
set_option maxRecDepth 100000 in
set_option maxHeartbeats 1000000 in
theorem rtag_any (A : Option Addr) (n c : Nat) (key l : List UInt8) (w : World) (h : BS w A n c l) (hk : key.length ≤ 64) (hN : n ≤ 1000000) :
    Calls Tryd.prog 51 #[.string (strB key), .slice A n c] w fun e w' => e = .returned (.string (strB (tagL key l))) ∧ Below w.heap.size w w' := by
  have HK := Lib.hid hk
  have H := Lib.hid h
  have f1 : ¬ 64 < (strB key).size := by rw [strB_size]; omega
  have HIl : Hid ((xr 0x36 (keyp key)).length = 64) := Lib.hid (by rw [xr_length, keyp_length key hk])
  have HOl : Hid ((xr 0x5c (keyp key)).length = 64) := Lib.hid (by rw [xr_length, keyp_length key hk])
  have HTL : Hid (tagL key l = sha (xr 0x5c (keyp key) ++ sha (xr 0x36 (keyp key) ++ l))) := Lib.hid rfl
  obtain ⟨R, hR⟩ : ∃ R, R = tagL key l := ⟨_, rfl⟩
  rw [← hR] at HTL ⊢
  clear h hk hR
  go_enter Tryd.func51, Tryd.ntmps51
  go_wp2_with (first
    | (go_at_call 79; (with_reducible show Calls _ _ _ w _); refine (rpad5_any key 0x36 _ m54 w HK.out).mono ?_; rintro e w1 ⟨⟨g1, c1, rfl, o⟩, b⟩; have HO1 := Lib.hid o; have HB1 := Lib.hid b; clear o b)
    | ((with_reducible show wpList _ _ _ (⟨some 15, _, _, _, _, _⟩ :: _) _ _); refine wpList_appB _ rfl (.tmp 13) (.tmp 14) rfl w.heap.size _ 64 _ rfl HO1.out A n c l rfl (H.out.kept HB1.out) (by omega) HB1.out.size ?_; intro v2 w2 hp; have HO2 := Lib.hid hp.own; have HB2 := Lib.hid (hp.below HO1.out HB1.out (Nat.le_refl _) HB1.out.size); obtain ⟨A2, c2, rfl, b2⟩ := BS.of_own hp.own (by unfold lim; omega); have HS2 := Lib.hid b2; clear hp b2)
    | (go_at_call 48; (with_reducible show Calls _ _ _ w2 _); refine (rsum_any A2 (64 + n) c2 _ w2 HS2.out (by omega)).mono ?_; rintro e w3 ⟨rfl, b⟩; have HB3 := Lib.hid (below_then HB2.out b); clear b))
  obtain ⟨S, hS⟩ : ∃ S, S = sha (xr 0x36 (keyp key) ++ l) := ⟨_, rfl⟩
  have HSl : Hid (S.length = 32) := Lib.hid (by rw [hS]; exact sha_length _)
  rw [← hS] at HTL ⊢
  clear hS HO2 HS2 HO1 HB1 HB2
  go_wp2_with (first
    | (go_at_call 79; (with_reducible show Calls _ _ _ w3 _); refine (rpad5_any key 0x5c _ m92 w3 HK.out).mono ?_; rintro e w4 ⟨⟨g4, c4, rfl, o⟩, b⟩; have HO4 := Lib.hid o; have HB4 := Lib.hid b; clear o b)
    | ((with_reducible show wpList _ _ _ (⟨some 20, _, _, _, _, _⟩ :: _) _ _); refine wpList_convB _ rfl (.tmp 19) rfl S rfl ?_; intro w5 cap hc; have HC5 := Lib.hid hc; have HO5 := Lib.hid (own_below HO4.out hc.2.2.1); have HB5 := Lib.hid (below_thenB HB4.out HB4.out.size hc.2.2.1); clear hc)
    | ((with_reducible show wpList _ _ _ (⟨some 21, _, _, _, _, _⟩ :: _) _ _); refine wpList_appB _ rfl (.tmp 18) (.tmp 20) rfl w3.heap.size _ 64 _ rfl HO5.out _ S.length cap S rfl (HC5.out.bs (by rw [HSl.out]; decide)) (by rw [HSl.out]; decide) HB5.out.size ?_; intro v6 w6 hp; have HB6 := Lib.hid (hp.below HO5.out HB5.out (Nat.le_refl _) HB5.out.size); obtain ⟨A6, c6, rfl, b6⟩ := BS.of_own hp.own (by rw [HSl.out]; decide); have HS6 := Lib.hid b6; clear hp b6)
    | (go_at_call 48; refine (rsum_any A6 (64 + S.length) c6 _ w6 HS6.out (by rw [HSl.out]; decide)).mono ?_; rintro e w7 ⟨rfl, b⟩; have HB7 := Lib.hid (below_thenB HB6.out HB6.out.size b); clear b))
  go_ret
  exact ⟨by rw [HTL.out]; rfl, below_then HB3.out HB7.out⟩
end Go.Proofs.YtgjgofjabdjclaaDoor
/- Contract of ref01.Number. -/
namespace Go.Proofs.YtgjgofjabdjclaaDoor
open Go Go.RowKit Gf Sha

theorem low_n : ∀ n, n < 256 → UInt8.ofNat n ||| 128 = UInt8.ofNat (n % 128) + 128 := by decide +kernel
theorem low_b (a : UInt8) : (a ||| 128) = UInt8.ofNat (a.toNat % 128) + 128 := by
  have h := low_n a.toNat a.toNat_lt
  rwa [UInt8.ofNat_toNat] at h
theorem low_of (n : Nat) : UInt8.ofNat (n % 128) + 128 = UInt8.ofNat n ||| 128 := by
  rw [low_b]
  congr 1
  apply UInt8.toNat_inj.1
  rw [UInt8.toNat_ofNat', UInt8.toNat_ofNat', UInt8.toNat_ofNat']
  omega
theorem add128 (b : UInt8) : IntKind.u8.wrap (bv b + 128) = bv (b + 128) := by
  unfold bv
  show ((b.toNat : Int) + 128) % 256 = _
  rw [UInt8.toNat_add]
  show _ = (((b.toNat + 128) % 256 : Nat) : Int)
  omega
attribute [local go_sem] add128

set_option maxRecDepth 100000 in
set_option maxHeartbeats 1000000 in
theorem rnum_any (N : Nat) (w : World) (hN : N ≤ 1099511627776) :
    Calls Tryd.prog 52 #[.int .u64 (N : Int)] w fun e w' => (∃ g m c', e = .returned (.slice (some ⟨g, 0, none⟩) m c') ∧ m = (uv N).length ∧ w'.ownsRow w.heap.size 5 1 (.slice (some ⟨g, 0, none⟩) m c') m ((uv N).map B)) ∧ Below w.heap.size w w' := by
  have HO0 : Hid ((w.alloc (.cells #[] 5)).ownsRow w.heap.size 5 1 (.slice (some ⟨w.heap.size, 0, none⟩) 0 0) 0 (([] : List UInt8).map B)) := Lib.hid (BL.own (BL.new w 5 []) (Nat.le_refl _) rfl (by decide))
  have HX0 : Hid (Below w.heap.size w (w.alloc (.cells #[] 5))) := Lib.hid ((Below.refl _ _).alloc (Nat.le_refl _) _)
  go_enter Tryd.func52, Tryd.ntmps52
  go_wp2_with fail
  go_loopw [0, 3] (fun i v wr => ∃ (X f m g4 c4 : Nat) (pre : List UInt8), X ≤ 1099511627776 ∧ m ≤ 20 ∧ i = .int .u64 (X : Int) ∧ v = .slice (some ⟨g4, 0, none⟩) m c4 ∧ Hid (X < 128 ^ (f + 1)) ∧ Hid (m + f = 10) ∧ Hid (pre ++ uvf f X = uv N) ∧ Hid (wr.ownsRow w.heap.size 5 1 (.slice (some ⟨g4, 0, none⟩) m c4) m (pre.map B)) ∧ Hid (Below w.heap.size w wr)) (fun i _ _ => (intOf i).toNat)
  case atStart => exact ⟨N, 10, 0, _, _, [], hN, by omega, rfl, rfl, Lib.hid (Nat.lt_of_le_of_lt hN (by decide)), Lib.hid rfl, Lib.hid rfl, HO0, HX0⟩
  case round =>
    obtain ⟨X, f, m, g4, c4, pre, hX, hm, rfl, rfl, hf, hmf, hp, ho, hb⟩ := hrel
    obtain ⟨wx, hwx⟩ : ∃ x, x = wr := ⟨_, rfl⟩
    rw [← hwx] at ho hb ⊢
    clear hwx
    by_cases hlt : 127 < X
    · obtain ⟨f, rfl⟩ : ∃ k, f = k + 1 := by
        cases f with
        | zero => exfalso; have := hf.out; simp at this; omega
        | succ k => exact ⟨k, rfl⟩
      obtain ⟨y, hy⟩ : ∃ y, y = UInt8.ofNat (X % 128) + 128 := ⟨_, rfl⟩
      have hy2 : UInt8.ofNat (X % 128) + 128 = y := hy.symm
      have HBB := Lib.hid (hb.out.alloc hb.out.size (.cells #[B y] 5))
      have HOO := Lib.hid (ho.out.kept (World.grownBy_alloc wx (.cells #[B y] 5) none) (by simp [Value.ownBlock]))
      have HBK : Hid (Blk (wx.alloc (.cells #[B y] 5)) wx.heap.size 5 #[B y]) := Lib.hid (Blk.new wx 5 #[B y])
      have HP : Hid ((pre ++ [y]) ++ uvf f (X / 128) = uv N) := Lib.hid (by
        rw [← hp.out, uvf_more f X (by omega), hy, low_of, List.append_assoc, Nat.shiftRight_eq_div_pow]; rfl)
      have HF : Hid (X / 128 < 128 ^ (f + 1)) := Lib.hid (by
        have h1 := hf.out
        rw [Nat.pow_succ] at h1
        exact Nat.div_lt_of_lt_mul (by rw [Nat.mul_comm]; exact h1))
      have h0 : (0 : Int) ≤ (X : Int) := by omega
      have hm9 : m ≤ 9 := by have := hmf.out; omega
      clear hy
      go_wp2_with (first
        | ((with_reducible show wpList _ _ _ (⟨some 9, _, _, _, _, _⟩ :: _) _ _); refine wpList_remN _ rfl (.tmp 8) _ 85 85 rfl X 128 _ 128 rfl rfl rfl rfl (by decide) ?_)
        | ((with_reducible show wpList _ _ _ (⟨some 10, _, _, _, _, _⟩ :: _) _ _); refine wpList_u8N _ rfl (.tmp 9) 85 5 rfl _ .u64 Tryd.underlying85 Tryd.underlying5 _ _ rfl rfl ?_)
        | ((with_reducible show wpList _ _ _ (⟨some 13, _, _, _, _, _⟩ :: _) _ _); refine wpList_app1 _ rfl (.tmp 7) (.tmp 12) 22 5 (.int .u8 0) 1 Tryd.underlying22 infoU8 rfl rfl w.heap.size _ m _ rfl HOO.out wx.heap.size 1 5 (B y) rfl HBK.out rfl (by omega) (by omega) HBB.out.size ?_; intro v6 w6 hpp))
      obtain ⟨g6, c6, rfl⟩ := hpp.form (by omega)
      have HO6 : Hid (w6.ownsRow w.heap.size 5 1 (.slice (some ⟨g6, 0, none⟩) (m + 1) c6) (m + 1) ((pre ++ [y]).map B)) := Lib.hid (by have := hpp.own; rw [List.map_append]; exact this)
      have HB6 := Lib.hid (hpp.below HOO.out HBB.out (Nat.le_refl _) HBB.out.size)
      clear hpp
      go_roundw
      case rel => exact ⟨X / 128, f, m + 1, _, _, pre ++ [y], by omega, by omega, by go_num, rfl, HF, Lib.hid (by have := hmf.out; omega), HP, HO6, HB6⟩
      case measure => simp [intOf]; omega
    · obtain ⟨y, hy⟩ : ∃ y, y = UInt8.ofNat X := ⟨_, rfl⟩
      have hy2 : UInt8.ofNat X = y := hy.symm
      have HBB := Lib.hid (hb.out.alloc hb.out.size (.cells #[B y] 5))
      have HOO := Lib.hid (ho.out.kept (World.grownBy_alloc wx (.cells #[B y] 5) none) (by simp [Value.ownBlock]))
      have HBK : Hid (Blk (wx.alloc (.cells #[B y] 5)) wx.heap.size 5 #[B y]) := Lib.hid (Blk.new wx 5 #[B y])
      have HP : Hid (pre ++ [y] = uv N) := Lib.hid (by rw [← hp.out, uvf_small f X (by omega), hy])
      clear hy
      go_wp2_with (first
        | ((with_reducible show wpList _ _ _ (⟨some 18, _, _, _, _, _⟩ :: _) _ _); refine wpList_u8N _ rfl (.tmp 17) 85 5 rfl _ .u64 Tryd.underlying85 Tryd.underlying5 _ _ rfl rfl ?_)
        | ((with_reducible show wpList _ _ _ (⟨some 20, _, _, _, _, _⟩ :: _) _ _); refine wpList_app1 _ rfl (.tmp 16) (.tmp 19) 22 5 (.int .u8 0) 1 Tryd.underlying22 infoU8 rfl rfl w.heap.size _ m _ rfl HOO.out wx.heap.size 1 5 (B y) rfl HBK.out rfl (by omega) (by omega) HBB.out.size ?_; intro v6 w6 hpp))
      obtain ⟨g6, c6, rfl⟩ := hpp.form (by omega)
      have HO6 : Hid (w6.ownsRow w.heap.size 5 1 (.slice (some ⟨g6, 0, none⟩) (m + 1) c6) (m + 1) ((uv N).map B)) := Lib.hid (by have := hpp.own; rw [← HP.out, List.map_append]; exact this)
      have HB6 := Lib.hid (hpp.below HOO.out HBB.out (Nat.le_refl _) HBB.out.size)
      clear hpp
      go_ret
      exact ⟨⟨g6, m + 1, c6, rfl, by have := HO6.out.1; simpa using this.symm, HO6.out⟩, HB6.out⟩
end Go.Proofs.YtgjgofjabdjclaaDoor
/- Contracts: Nonce, and Tokens where an argument is not valid. -/
namespace Go.Proofs.YtgjgofjabdjclaaDoor
open Go Go.RowKit Gf Sha

set_option maxRecDepth 100000 in
set_option maxHeartbeats 4000000 in
theorem nonce_ok (Kx : Ky) (s : List UInt8) (j n : Nat) (w : World) (hT : Tabs w) (h : nonB Kx s (j : Int) (n : Int) = true) :
    Calls Tryd.prog 29 #[Kx.val, .agg #[.string (strB s), .int .i64 (j : Int)], .int .i64 (n : Int)] w fun e w' => e = .returned (.tuple #[.string (strB (nonceL Kx s j n)), .int .i64 0]) ∧ Below w.heap.size w w' := by
  simp only [nonB, Bool.and_eq_true, decide_eq_true_eq] at h
  obtain ⟨hK, hI, _, hn⟩ := h
  have HK := Lib.hid hK
  have HI := Lib.hid hI
  have HT := Lib.hid hT
  have hI2 : s.length = 32 ∧ j < 16 := by
    simp only [idB, Bool.and_eq_true, decide_eq_true_eq] at hI
    exact ⟨hI.1, by omega⟩
  have HN := Lib.hid hI2
  clear hK hI hT hI2
  obtain ⟨i, hi⟩ : ∃ i : Int, i = (j : Int) := ⟨_, rfl⟩
  rw [← hi]
  rw [← hi] at HI
  have HJ := Lib.hid hi
  clear hi
  go_enter Tryd.func29, Tryd.ntmps29
  go_wp2_with (first
    | ((with_reducible show wpList _ _ _ (⟨some 3, _, _, _, _, _⟩ :: _) _ _); refine wpList_box _ rfl 29 (.tmp 0) rfl Kx.cells rfl ?_; intro w1 a1 a2 a3; have HG1 := Lib.hid a1; have HB1 := Lib.hid a2; clear a1 a2 a3)
    | ((with_reducible show wpList _ _ _ (⟨some 4, _, _, _, _, _⟩ :: _) _ _); refine wpList_box _ rfl 33 (.tmp 1) rfl [.string (strB s), .int .i64 i] rfl ?_; intro w2 a1 a2 a3; have HP2 := Lib.hid a1; have HB2 := Lib.hid (below_then HB1.out (a2.mono (Nat.le_refl _))); have HG2 := Lib.hid (HG1.out.kept a2); clear a1 a2 a3)
    | ((with_reducible show wpList _ _ _ (⟨some 8, _, _, _, _, _⟩ :: _) _ _); refine wpList_loadv _ rfl 29 (.tmp 3) rfl 5 (by kernel_rfl) w.heap.size 0 Kx.cells rfl (BL.all HG2.out) rfl ?_)
    | (go_at_call 41; refine (areKeys_any Kx w2).mono ?_; rintro e w3 ⟨rfl, b1⟩; rw [HK.out]; have HB3 := Lib.hid (below_thenB HB2.out HB2.out.size b1); have HG3 := Lib.hid (HG2.out.kept b1); have HP3 := Lib.hid (HP2.out.kept b1); have q0 := HP3.out.get (j := 0) rfl; have q1 := HP3.out.get (j := 1) rfl; clear b1)
    | (go_at_call 42; refine (isID_any s i w3).mono ?_; rintro e w4 ⟨rfl, b1⟩; rw [HI.out]; have HB4 := Lib.hid (below_thenB HB3.out HB3.out.size b1); have HG4 := Lib.hid (HG3.out.kept b1); have HP4 := Lib.hid (HP3.out.kept b1); clear b1 q0 q1)
    | ((with_reducible show wpList _ _ _ (⟨some 24, _, _, _, _, _⟩ :: _) _ _); refine wpList_loadv _ rfl 29 (.tmp 3) rfl 5 (by kernel_rfl) w.heap.size 0 Kx.cells rfl (BL.all HG4.out) rfl ?_)
    | ((with_reducible show wpList _ _ _ (⟨some 25, _, _, _, _, _⟩ :: _) _ _); refine wpList_loadv _ rfl 33 (.tmp 4) rfl 2 (by kernel_rfl) w1.heap.size 0 [.string (strB s), .int .i64 i] rfl (BL.all HP4.out) rfl ?_)
    | (go_at_call 45; rw [HJ.out]; refine (nonce_any Kx s j n w4 (HT.out.kept HB4.out) HK.out HN.out.1 HN.out.2 (by omega)).mono ?_; rintro e w5 ⟨rfl, b1⟩; have HB5 := Lib.hid (below_thenB HB4.out HB4.out.size b1); clear b1))
  go_ret2
  exact ⟨rfl, HB5.out⟩

set_option maxRecDepth 100000 in
set_option maxHeartbeats 4000000 in
theorem nonce_not (Kx : Ky) (s : List UInt8) (i n : Int) (w : World) (h : nonB Kx s i n = false) :
    Calls Tryd.prog 29 #[Kx.val, .agg #[.string (strB s), .int .i64 i], .int .i64 n] w fun e w' => e = .returned (.tuple #[.string (strB []), .int .i64 1]) ∧ Below w.heap.size w w' := by
  by_cases hK : okK Kx = true
  · have HK := Lib.hid hK
    by_cases hI : idB s i = true
    · have HI := Lib.hid hI
      rw [nonB, hK, hI, Bool.true_and, Bool.true_and] at h
      by_cases h0 : n < 0
      · clear hK hI h
        go_enter Tryd.func29, Tryd.ntmps29
        go_wp2_with (first
    | ((with_reducible show wpList _ _ _ (⟨some 3, _, _, _, _, _⟩ :: _) _ _); refine wpList_box _ rfl 29 (.tmp 0) rfl Kx.cells rfl ?_; intro w1 a1 a2 a3; have HG1 := Lib.hid a1; have HB1 := Lib.hid a2; clear a1 a2 a3)
    | ((with_reducible show wpList _ _ _ (⟨some 4, _, _, _, _, _⟩ :: _) _ _); refine wpList_box _ rfl 33 (.tmp 1) rfl [.string (strB s), .int .i64 i] rfl ?_; intro w2 a1 a2 a3; have HP2 := Lib.hid a1; have HB2 := Lib.hid (below_then HB1.out (a2.mono (Nat.le_refl _))); have HG2 := Lib.hid (HG1.out.kept a2); clear a1 a2 a3)
    | ((with_reducible show wpList _ _ _ (⟨some 8, _, _, _, _, _⟩ :: _) _ _); refine wpList_loadv _ rfl 29 (.tmp 3) rfl 5 (by kernel_rfl) w.heap.size 0 Kx.cells rfl (BL.all HG2.out) rfl ?_)
    | (go_at_call 41; refine (areKeys_any Kx w2).mono ?_; rintro e w3 ⟨rfl, b1⟩; rw [HK.out]; have HB3 := Lib.hid (below_thenB HB2.out HB2.out.size b1); have HG3 := Lib.hid (HG2.out.kept b1); have HP3 := Lib.hid (HP2.out.kept b1); have q0 := HP3.out.get (j := 0) rfl; have q1 := HP3.out.get (j := 1) rfl; clear b1)
    | (go_at_call 42; refine (isID_any s i w3).mono ?_; rintro e w4 ⟨rfl, b1⟩; rw [HI.out]; have HB4 := Lib.hid (below_thenB HB3.out HB3.out.size b1); have HG4 := Lib.hid (HG3.out.kept b1); have HP4 := Lib.hid (HP3.out.kept b1); clear b1 q0 q1))
        go_ret2
        exact ⟨rfl, HB4.out⟩
      · have h1 : 1099511627776 < n := by
          rw [decide_eq_true (by omega : 0 ≤ n), Bool.true_and] at h
          simpa using h
        clear hK hI h
        go_enter Tryd.func29, Tryd.ntmps29
        go_wp2_with (first
    | ((with_reducible show wpList _ _ _ (⟨some 3, _, _, _, _, _⟩ :: _) _ _); refine wpList_box _ rfl 29 (.tmp 0) rfl Kx.cells rfl ?_; intro w1 a1 a2 a3; have HG1 := Lib.hid a1; have HB1 := Lib.hid a2; clear a1 a2 a3)
    | ((with_reducible show wpList _ _ _ (⟨some 4, _, _, _, _, _⟩ :: _) _ _); refine wpList_box _ rfl 33 (.tmp 1) rfl [.string (strB s), .int .i64 i] rfl ?_; intro w2 a1 a2 a3; have HP2 := Lib.hid a1; have HB2 := Lib.hid (below_then HB1.out (a2.mono (Nat.le_refl _))); have HG2 := Lib.hid (HG1.out.kept a2); clear a1 a2 a3)
    | ((with_reducible show wpList _ _ _ (⟨some 8, _, _, _, _, _⟩ :: _) _ _); refine wpList_loadv _ rfl 29 (.tmp 3) rfl 5 (by kernel_rfl) w.heap.size 0 Kx.cells rfl (BL.all HG2.out) rfl ?_)
    | (go_at_call 41; refine (areKeys_any Kx w2).mono ?_; rintro e w3 ⟨rfl, b1⟩; rw [HK.out]; have HB3 := Lib.hid (below_thenB HB2.out HB2.out.size b1); have HG3 := Lib.hid (HG2.out.kept b1); have HP3 := Lib.hid (HP2.out.kept b1); have q0 := HP3.out.get (j := 0) rfl; have q1 := HP3.out.get (j := 1) rfl; clear b1)
    | (go_at_call 42; refine (isID_any s i w3).mono ?_; rintro e w4 ⟨rfl, b1⟩; rw [HI.out]; have HB4 := Lib.hid (below_thenB HB3.out HB3.out.size b1); have HG4 := Lib.hid (HG3.out.kept b1); have HP4 := Lib.hid (HP3.out.kept b1); clear b1 q0 q1))
        go_ret2
        exact ⟨rfl, HB4.out⟩
    · simp only [Bool.not_eq_true] at hI
      have HI := Lib.hid hI
      clear hK hI h
      go_enter Tryd.func29, Tryd.ntmps29
      go_wp2_with (first
    | ((with_reducible show wpList _ _ _ (⟨some 3, _, _, _, _, _⟩ :: _) _ _); refine wpList_box _ rfl 29 (.tmp 0) rfl Kx.cells rfl ?_; intro w1 a1 a2 a3; have HG1 := Lib.hid a1; have HB1 := Lib.hid a2; clear a1 a2 a3)
    | ((with_reducible show wpList _ _ _ (⟨some 4, _, _, _, _, _⟩ :: _) _ _); refine wpList_box _ rfl 33 (.tmp 1) rfl [.string (strB s), .int .i64 i] rfl ?_; intro w2 a1 a2 a3; have HP2 := Lib.hid a1; have HB2 := Lib.hid (below_then HB1.out (a2.mono (Nat.le_refl _))); have HG2 := Lib.hid (HG1.out.kept a2); clear a1 a2 a3)
    | ((with_reducible show wpList _ _ _ (⟨some 8, _, _, _, _, _⟩ :: _) _ _); refine wpList_loadv _ rfl 29 (.tmp 3) rfl 5 (by kernel_rfl) w.heap.size 0 Kx.cells rfl (BL.all HG2.out) rfl ?_)
    | (go_at_call 41; refine (areKeys_any Kx w2).mono ?_; rintro e w3 ⟨rfl, b1⟩; rw [HK.out]; have HB3 := Lib.hid (below_thenB HB2.out HB2.out.size b1); have HG3 := Lib.hid (HG2.out.kept b1); have HP3 := Lib.hid (HP2.out.kept b1); have q0 := HP3.out.get (j := 0) rfl; have q1 := HP3.out.get (j := 1) rfl; clear b1)
    | (go_at_call 42; refine (isID_any s i w3).mono ?_; rintro e w4 ⟨rfl, b1⟩; rw [HI.out]; have HB4 := Lib.hid (below_thenB HB3.out HB3.out.size b1); have HG4 := Lib.hid (HG3.out.kept b1); have HP4 := Lib.hid (HP3.out.kept b1); clear b1 q0 q1))
      go_ret2
      exact ⟨rfl, HB4.out⟩
  · simp only [Bool.not_eq_true] at hK
    have HK := Lib.hid hK
    clear hK h
    go_enter Tryd.func29, Tryd.ntmps29
    go_wp2_with (first
    | ((with_reducible show wpList _ _ _ (⟨some 3, _, _, _, _, _⟩ :: _) _ _); refine wpList_box _ rfl 29 (.tmp 0) rfl Kx.cells rfl ?_; intro w1 a1 a2 a3; have HG1 := Lib.hid a1; have HB1 := Lib.hid a2; clear a1 a2 a3)
    | ((with_reducible show wpList _ _ _ (⟨some 4, _, _, _, _, _⟩ :: _) _ _); refine wpList_box _ rfl 33 (.tmp 1) rfl [.string (strB s), .int .i64 i] rfl ?_; intro w2 a1 a2 a3; have HP2 := Lib.hid a1; have HB2 := Lib.hid (below_then HB1.out (a2.mono (Nat.le_refl _))); have HG2 := Lib.hid (HG1.out.kept a2); clear a1 a2 a3)
    | ((with_reducible show wpList _ _ _ (⟨some 8, _, _, _, _, _⟩ :: _) _ _); refine wpList_loadv _ rfl 29 (.tmp 3) rfl 5 (by kernel_rfl) w.heap.size 0 Kx.cells rfl (BL.all HG2.out) rfl ?_)
    | (go_at_call 41; refine (areKeys_any Kx w2).mono ?_; rintro e w3 ⟨rfl, b1⟩; rw [HK.out]; have HB3 := Lib.hid (below_thenB HB2.out HB2.out.size b1); have HG3 := Lib.hid (HG2.out.kept b1); have HP3 := Lib.hid (HP2.out.kept b1); have q0 := HP3.out.get (j := 0) rfl; have q1 := HP3.out.get (j := 1) rfl; clear b1))
    go_ret2
    exact ⟨rfl, HB3.out⟩

set_option maxRecDepth 100000 in
set_option maxHeartbeats 4000000 in
theorem tokens_not (Kx : Ky) (s : List UInt8) (i : Int) (A : Option Addr) (m cp : Nat) (f c : Int) (w : World) (h : (okK Kx && (idB s i && (dataB m && rangeB f c))) = false) :
    Calls Tryd.prog 13 #[Kx.val, .agg #[.string (strB s), .int .i64 i], .slice A m cp, .int .i64 f, .int .i64 c] w fun e w' => e = .returned (.tuple #[.slice none 0 0, .int .i64 1]) ∧ Below w.heap.size w w' := by
  by_cases hK : okK Kx = true
  · have HK := Lib.hid hK
    by_cases hI : idB s i = true
    · have HI := Lib.hid hI
      by_cases hD : dataB m = true
      · have HD := Lib.hid hD
        rw [hK, hI, hD, Bool.true_and, Bool.true_and, Bool.true_and] at h
        have HR := Lib.hid h
        clear hK hI hD h
        go_enter Tryd.func13, Tryd.ntmps13
        go_wp2_with (first
    | ((with_reducible show wpList _ _ _ (⟨some 5, _, _, _, _, _⟩ :: _) _ _); refine wpList_box _ rfl 29 (.tmp 0) rfl Kx.cells rfl ?_; intro w1 a1 a2 a3; have HG1 := Lib.hid a1; have HB1 := Lib.hid a2; clear a1 a2 a3)
    | ((with_reducible show wpList _ _ _ (⟨some 6, _, _, _, _, _⟩ :: _) _ _); refine wpList_box _ rfl 33 (.tmp 1) rfl [.string (strB s), .int .i64 i] rfl ?_; intro w2 a1 a2 a3; have HP2 := Lib.hid a1; have HB2 := Lib.hid (below_then HB1.out (a2.mono (Nat.le_refl _))); have HG2 := Lib.hid (HG1.out.kept a2); clear a1 a2 a3)
    | ((with_reducible show wpList _ _ _ (⟨some 15, _, _, _, _, _⟩ :: _) _ _); refine wpList_loadv _ rfl 29 (.tmp 5) rfl 5 (by kernel_rfl) w.heap.size 0 Kx.cells rfl (BL.all HG2.out) rfl ?_)
    | (go_at_call 41; refine (areKeys_any Kx w2).mono ?_; rintro e w3 ⟨rfl, b1⟩; rw [HK.out]; have HB3 := Lib.hid (below_thenB HB2.out HB2.out.size b1); have HG3 := Lib.hid (HG2.out.kept b1); have HP3 := Lib.hid (HP2.out.kept b1); have q0 := HP3.out.get (j := 0) rfl; have q1 := HP3.out.get (j := 1) rfl; clear b1)
    | (go_at_call 42; refine (isID_any s i w3).mono ?_; rintro e w4 ⟨rfl, b1⟩; rw [HI.out]; have HB4 := Lib.hid (below_thenB HB3.out HB3.out.size b1); have HG4 := Lib.hid (HG3.out.kept b1); have HP4 := Lib.hid (HP3.out.kept b1); clear b1 q0 q1)
    | (go_at_call 43; refine (isData_any A m cp w4).mono ?_; rintro e w' ⟨rfl, rfl⟩; rw [HD.out])
    | (go_at_call 44; refine (isRange_any f c w4).mono ?_; rintro e w' ⟨rfl, rfl⟩; rw [HR.out]))
        go_ret2
        exact ⟨rfl, HB4.out⟩
      · simp only [Bool.not_eq_true] at hD
        have HD := Lib.hid hD
        clear hK hI hD h
        go_enter Tryd.func13, Tryd.ntmps13
        go_wp2_with (first
    | ((with_reducible show wpList _ _ _ (⟨some 5, _, _, _, _, _⟩ :: _) _ _); refine wpList_box _ rfl 29 (.tmp 0) rfl Kx.cells rfl ?_; intro w1 a1 a2 a3; have HG1 := Lib.hid a1; have HB1 := Lib.hid a2; clear a1 a2 a3)
    | ((with_reducible show wpList _ _ _ (⟨some 6, _, _, _, _, _⟩ :: _) _ _); refine wpList_box _ rfl 33 (.tmp 1) rfl [.string (strB s), .int .i64 i] rfl ?_; intro w2 a1 a2 a3; have HP2 := Lib.hid a1; have HB2 := Lib.hid (below_then HB1.out (a2.mono (Nat.le_refl _))); have HG2 := Lib.hid (HG1.out.kept a2); clear a1 a2 a3)
    | ((with_reducible show wpList _ _ _ (⟨some 15, _, _, _, _, _⟩ :: _) _ _); refine wpList_loadv _ rfl 29 (.tmp 5) rfl 5 (by kernel_rfl) w.heap.size 0 Kx.cells rfl (BL.all HG2.out) rfl ?_)
    | (go_at_call 41; refine (areKeys_any Kx w2).mono ?_; rintro e w3 ⟨rfl, b1⟩; rw [HK.out]; have HB3 := Lib.hid (below_thenB HB2.out HB2.out.size b1); have HG3 := Lib.hid (HG2.out.kept b1); have HP3 := Lib.hid (HP2.out.kept b1); have q0 := HP3.out.get (j := 0) rfl; have q1 := HP3.out.get (j := 1) rfl; clear b1)
    | (go_at_call 42; refine (isID_any s i w3).mono ?_; rintro e w4 ⟨rfl, b1⟩; rw [HI.out]; have HB4 := Lib.hid (below_thenB HB3.out HB3.out.size b1); have HG4 := Lib.hid (HG3.out.kept b1); have HP4 := Lib.hid (HP3.out.kept b1); clear b1 q0 q1)
    | (go_at_call 43; refine (isData_any A m cp w4).mono ?_; rintro e w' ⟨rfl, rfl⟩; rw [HD.out]))
        go_ret2
        exact ⟨rfl, HB4.out⟩
    · simp only [Bool.not_eq_true] at hI
      have HI := Lib.hid hI
      clear hK hI h
      go_enter Tryd.func13, Tryd.ntmps13
      go_wp2_with (first
    | ((with_reducible show wpList _ _ _ (⟨some 5, _, _, _, _, _⟩ :: _) _ _); refine wpList_box _ rfl 29 (.tmp 0) rfl Kx.cells rfl ?_; intro w1 a1 a2 a3; have HG1 := Lib.hid a1; have HB1 := Lib.hid a2; clear a1 a2 a3)
    | ((with_reducible show wpList _ _ _ (⟨some 6, _, _, _, _, _⟩ :: _) _ _); refine wpList_box _ rfl 33 (.tmp 1) rfl [.string (strB s), .int .i64 i] rfl ?_; intro w2 a1 a2 a3; have HP2 := Lib.hid a1; have HB2 := Lib.hid (below_then HB1.out (a2.mono (Nat.le_refl _))); have HG2 := Lib.hid (HG1.out.kept a2); clear a1 a2 a3)
    | ((with_reducible show wpList _ _ _ (⟨some 15, _, _, _, _, _⟩ :: _) _ _); refine wpList_loadv _ rfl 29 (.tmp 5) rfl 5 (by kernel_rfl) w.heap.size 0 Kx.cells rfl (BL.all HG2.out) rfl ?_)
    | (go_at_call 41; refine (areKeys_any Kx w2).mono ?_; rintro e w3 ⟨rfl, b1⟩; rw [HK.out]; have HB3 := Lib.hid (below_thenB HB2.out HB2.out.size b1); have HG3 := Lib.hid (HG2.out.kept b1); have HP3 := Lib.hid (HP2.out.kept b1); have q0 := HP3.out.get (j := 0) rfl; have q1 := HP3.out.get (j := 1) rfl; clear b1)
    | (go_at_call 42; refine (isID_any s i w3).mono ?_; rintro e w4 ⟨rfl, b1⟩; rw [HI.out]; have HB4 := Lib.hid (below_thenB HB3.out HB3.out.size b1); have HG4 := Lib.hid (HG3.out.kept b1); have HP4 := Lib.hid (HP3.out.kept b1); clear b1 q0 q1))
      go_ret2
      exact ⟨rfl, HB4.out⟩
  · simp only [Bool.not_eq_true] at hK
    have HK := Lib.hid hK
    clear hK h
    go_enter Tryd.func13, Tryd.ntmps13
    go_wp2_with (first
    | ((with_reducible show wpList _ _ _ (⟨some 5, _, _, _, _, _⟩ :: _) _ _); refine wpList_box _ rfl 29 (.tmp 0) rfl Kx.cells rfl ?_; intro w1 a1 a2 a3; have HG1 := Lib.hid a1; have HB1 := Lib.hid a2; clear a1 a2 a3)
    | ((with_reducible show wpList _ _ _ (⟨some 6, _, _, _, _, _⟩ :: _) _ _); refine wpList_box _ rfl 33 (.tmp 1) rfl [.string (strB s), .int .i64 i] rfl ?_; intro w2 a1 a2 a3; have HP2 := Lib.hid a1; have HB2 := Lib.hid (below_then HB1.out (a2.mono (Nat.le_refl _))); have HG2 := Lib.hid (HG1.out.kept a2); clear a1 a2 a3)
    | ((with_reducible show wpList _ _ _ (⟨some 15, _, _, _, _, _⟩ :: _) _ _); refine wpList_loadv _ rfl 29 (.tmp 5) rfl 5 (by kernel_rfl) w.heap.size 0 Kx.cells rfl (BL.all HG2.out) rfl ?_)
    | (go_at_call 41; refine (areKeys_any Kx w2).mono ?_; rintro e w3 ⟨rfl, b1⟩; rw [HK.out]; have HB3 := Lib.hid (below_thenB HB2.out HB2.out.size b1); have HG3 := Lib.hid (HG2.out.kept b1); have HP3 := Lib.hid (HP2.out.kept b1); have q0 := HP3.out.get (j := 0) rfl; have q1 := HP3.out.get (j := 1) rfl; clear b1))
    go_ret2
    exact ⟨rfl, HB3.out⟩
end Go.Proofs.YtgjgofjabdjclaaDoor
/- Contracts of ref11.ValidKeys and of ref44's ValidPiece, data, numbers. -/
namespace Go.Proofs.YtgjgofjabdjclaaDoor
open Go Go.RowKit Gf Sha

theorem okK_out {K : Ky} {l : List UInt8} (hl : l ∈ K.list) (h : ¬ l.length = 32) : okK K = false := by
  rw [Bool.eq_false_iff]
  intro e
  exact h (okK_nm e l hl)
set_option maxRecDepth 100000 in
set_option maxHeartbeats 1000000 in
theorem rkeys_any (K : Ky) (w : World) :
    Calls Tryd.prog 56 #[K.val] w fun e w' => e = .returned (.bool (okK K)) ∧ Below w.heap.size w w' := by
  by_cases h0 : K.nm.length = 32
  case neg =>
    have HE : Hid (okK K = false) := Lib.hid (okK_out (l := K.nm) (by simp [Ky.list]) h0)
    have e0 : (((strB K.nm).size : Int) == 32) = false := by rw [strB_size, beq_eq_false_iff_ne]; omega
    clear h0
    go_enter Tryd.func56, Tryd.ntmps56
    go_wp2_with ((with_reducible show wpList _ _ _ (⟨some 1, _, _, _, _, _⟩ :: _) _ _); refine wpList_box _ rfl 29 (.tmp 0) rfl K.cells rfl ?_; intro w1 a1 a2 a3; have q0 := BL.get a1 (j := 0) rfl; have q1 := BL.get a1 (j := 1) rfl; have q2 := BL.get a1 (j := 2) rfl; have q3 := BL.get a1 (j := 3) rfl; have q4 := BL.get a1 (j := 4) rfl; have HB1 := Lib.hid a2; clear a1 a2 a3)
    go_ret
    exact ⟨ret_bool HE.out.symm, HB1.out⟩
  have e0 : (((strB K.nm).size : Int) == 32) = true := by rw [strB_size, beq_iff_eq]; omega
  by_cases h1 : K.st.length = 32
  case neg =>
    have HE : Hid (okK K = false) := Lib.hid (okK_out (l := K.st) (by simp [Ky.list]) h1)
    have e1 : (((strB K.st).size : Int) == 32) = false := by rw [strB_size, beq_eq_false_iff_ne]; omega
    clear h0 h1
    go_enter Tryd.func56, Tryd.ntmps56
    go_wp2_with ((with_reducible show wpList _ _ _ (⟨some 1, _, _, _, _, _⟩ :: _) _ _); refine wpList_box _ rfl 29 (.tmp 0) rfl K.cells rfl ?_; intro w1 a1 a2 a3; have q0 := BL.get a1 (j := 0) rfl; have q1 := BL.get a1 (j := 1) rfl; have q2 := BL.get a1 (j := 2) rfl; have q3 := BL.get a1 (j := 3) rfl; have q4 := BL.get a1 (j := 4) rfl; have HB1 := Lib.hid a2; clear a1 a2 a3)
    go_ret
    exact ⟨ret_bool HE.out.symm, HB1.out⟩
  have e1 : (((strB K.st).size : Int) == 32) = true := by rw [strB_size, beq_iff_eq]; omega
  by_cases h2 : K.ck.length = 32
  case neg =>
    have HE : Hid (okK K = false) := Lib.hid (okK_out (l := K.ck) (by simp [Ky.list]) h2)
    have e2 : (((strB K.ck).size : Int) == 32) = false := by rw [strB_size, beq_eq_false_iff_ne]; omega
    clear h0 h1 h2
    go_enter Tryd.func56, Tryd.ntmps56
    go_wp2_with ((with_reducible show wpList _ _ _ (⟨some 1, _, _, _, _, _⟩ :: _) _ _); refine wpList_box _ rfl 29 (.tmp 0) rfl K.cells rfl ?_; intro w1 a1 a2 a3; have q0 := BL.get a1 (j := 0) rfl; have q1 := BL.get a1 (j := 1) rfl; have q2 := BL.get a1 (j := 2) rfl; have q3 := BL.get a1 (j := 3) rfl; have q4 := BL.get a1 (j := 4) rfl; have HB1 := Lib.hid a2; clear a1 a2 a3)
    go_ret
    exact ⟨ret_bool HE.out.symm, HB1.out⟩
  have e2 : (((strB K.ck).size : Int) == 32) = true := by rw [strB_size, beq_iff_eq]; omega
  by_cases h3 : K.ix.length = 32
  case neg =>
    have HE : Hid (okK K = false) := Lib.hid (okK_out (l := K.ix) (by simp [Ky.list]) h3)
    have e3 : (((strB K.ix).size : Int) == 32) = false := by rw [strB_size, beq_eq_false_iff_ne]; omega
    clear h0 h1 h2 h3
    go_enter Tryd.func56, Tryd.ntmps56
    go_wp2_with ((with_reducible show wpList _ _ _ (⟨some 1, _, _, _, _, _⟩ :: _) _ _); refine wpList_box _ rfl 29 (.tmp 0) rfl K.cells rfl ?_; intro w1 a1 a2 a3; have q0 := BL.get a1 (j := 0) rfl; have q1 := BL.get a1 (j := 1) rfl; have q2 := BL.get a1 (j := 2) rfl; have q3 := BL.get a1 (j := 3) rfl; have q4 := BL.get a1 (j := 4) rfl; have HB1 := Lib.hid a2; clear a1 a2 a3)
    go_ret
    exact ⟨ret_bool HE.out.symm, HB1.out⟩
  have e3 : (((strB K.ix).size : Int) == 32) = true := by rw [strB_size, beq_iff_eq]; omega
  by_cases h4 : K.tk.length = 32
  case neg =>
    have HE : Hid (okK K = false) := Lib.hid (okK_out (l := K.tk) (by simp [Ky.list]) h4)
    have e4 : (((strB K.tk).size : Int) == 32) = false := by rw [strB_size, beq_eq_false_iff_ne]; omega
    clear h0 h1 h2 h3 h4
    go_enter Tryd.func56, Tryd.ntmps56
    go_wp2_with ((with_reducible show wpList _ _ _ (⟨some 1, _, _, _, _, _⟩ :: _) _ _); refine wpList_box _ rfl 29 (.tmp 0) rfl K.cells rfl ?_; intro w1 a1 a2 a3; have q0 := BL.get a1 (j := 0) rfl; have q1 := BL.get a1 (j := 1) rfl; have q2 := BL.get a1 (j := 2) rfl; have q3 := BL.get a1 (j := 3) rfl; have q4 := BL.get a1 (j := 4) rfl; have HB1 := Lib.hid a2; clear a1 a2 a3)
    go_ret
    exact ⟨ret_bool HE.out.symm, HB1.out⟩
  have e4 : (((strB K.tk).size : Int) == 32) = true := by rw [strB_size, beq_iff_eq]; omega
  have HE : Hid (okK K = true) := Lib.hid (by
    unfold okK
    rw [List.all_eq_true]
    intro l hl
    simp only [Ky.list, List.mem_cons, List.not_mem_nil, or_false] at hl
    rcases hl with rfl | rfl | rfl | rfl | rfl <;> simp [h0, h1, h2, h3, h4])
  clear h0 h1 h2 h3 h4
  go_enter Tryd.func56, Tryd.ntmps56
  go_wp2_with ((with_reducible show wpList _ _ _ (⟨some 1, _, _, _, _, _⟩ :: _) _ _); refine wpList_box _ rfl 29 (.tmp 0) rfl K.cells rfl ?_; intro w1 a1 a2 a3; have q0 := BL.get a1 (j := 0) rfl; have q1 := BL.get a1 (j := 1) rfl; have q2 := BL.get a1 (j := 2) rfl; have q3 := BL.get a1 (j := 3) rfl; have q4 := BL.get a1 (j := 4) rfl; have HB1 := Lib.hid a2; clear a1 a2 a3)
  go_ret
  exact ⟨ret_bool HE.out.symm, HB1.out⟩

set_option maxRecDepth 100000 in
set_option maxHeartbeats 1000000 in
theorem rpiece_any (s : List UInt8) (i : Int) (w : World) :
    Calls Tryd.prog 57 #[.agg #[.string (strB s), .int .i64 i]] w fun e w' => e = .returned (.bool (idB s i)) ∧ Below w.heap.size w w' := by
  by_cases h : s.length = 32
  · have e0 : (((strB s).size : Int) == 32) = true := by rw [strB_size, beq_iff_eq]; omega
    by_cases h1 : 0 ≤ i
    · have e1 : decide (0 ≤ i) = true := decide_eq_true h1
      have HE : Hid (idB s i = decide (i < 16)) := Lib.hid (by rw [idB, decide_eq_true h, decide_eq_true h1]; rfl)
      clear h h1
      go_enter Tryd.func57, Tryd.ntmps57
      go_wp2_with ((with_reducible show wpList _ _ _ (⟨some 1, _, _, _, _, _⟩ :: _) _ _); refine wpList_box _ rfl 33 (.tmp 0) rfl [.string (strB s), .int .i64 i] rfl ?_; intro w1 a1 a2 a3; have q0 := BL.get a1 (j := 0) rfl; have q1 := BL.get a1 (j := 1) rfl; have HB1 := Lib.hid a2; clear a1 a2 a3)
      go_ret
      exact ⟨ret_bool HE.out.symm, HB1.out⟩
    · have e1 : decide (0 ≤ i) = false := decide_eq_false h1
      have HE : Hid (idB s i = false) := Lib.hid (by rw [idB, decide_eq_false h1]; simp)
      clear h h1
      go_enter Tryd.func57, Tryd.ntmps57
      go_wp2_with ((with_reducible show wpList _ _ _ (⟨some 1, _, _, _, _, _⟩ :: _) _ _); refine wpList_box _ rfl 33 (.tmp 0) rfl [.string (strB s), .int .i64 i] rfl ?_; intro w1 a1 a2 a3; have q0 := BL.get a1 (j := 0) rfl; have q1 := BL.get a1 (j := 1) rfl; have HB1 := Lib.hid a2; clear a1 a2 a3)
      go_ret
      exact ⟨ret_bool HE.out.symm, HB1.out⟩
  · have e0 : (((strB s).size : Int) == 32) = false := by rw [strB_size, beq_eq_false_iff_ne]; omega
    have HE : Hid (idB s i = false) := Lib.hid (by rw [idB, decide_eq_false h]; rfl)
    clear h
    go_enter Tryd.func57, Tryd.ntmps57
    go_wp2_with ((with_reducible show wpList _ _ _ (⟨some 1, _, _, _, _, _⟩ :: _) _ _); refine wpList_box _ rfl 33 (.tmp 0) rfl [.string (strB s), .int .i64 i] rfl ?_; intro w1 a1 a2 a3; have q0 := BL.get a1 (j := 0) rfl; have q1 := BL.get a1 (j := 1) rfl; have HB1 := Lib.hid a2; clear a1 a2 a3)
    go_ret
    exact ⟨ret_bool HE.out.symm, HB1.out⟩

set_option maxRecDepth 100000 in
theorem rdata_any (A : Option Addr) (n c : Nat) (w : World) :
    Calls Tryd.prog 59 #[.slice A n c] w fun e w' => e = .returned (.bool (dataB n)) ∧ w = w' := by
  by_cases h : 1 ≤ n
  · have HE : Hid (dataB n = decide (n ≤ 65536)) := Lib.hid (by rw [dataB, decide_eq_true h, Bool.true_and])
    have e0 : decide ((1 : Int) ≤ (n : Int)) = true := decide_eq_true (by omega)
    clear h
    go_enter Tryd.func59, Tryd.ntmps59
    go_wp2_with fail
    go_ret
    exact ⟨ret_bool (by rw [HE.out, decide_eq_decide]; omega), rfl⟩
  · have HE : Hid (dataB n = false) := Lib.hid (by rw [dataB, decide_eq_false h, Bool.false_and])
    have e0 : decide ((1 : Int) ≤ (n : Int)) = false := decide_eq_false (by omega)
    clear h
    go_enter Tryd.func59, Tryd.ntmps59
    go_wp2_with fail
    go_ret
    exact ⟨ret_bool HE.out.symm, rfl⟩

set_option maxRecDepth 100000 in
set_option maxHeartbeats 1000000 in
theorem rnums_any (f c : Int) (w : World) :
    Calls Tryd.prog 60 #[.int .i64 f, .int .i64 c] w fun e w' => e = .returned (.bool (rangeB f c)) ∧ w = w' := by
  have HR : Hid (rangeB f c = (decide (0 ≤ f) && (decide (f ≤ 1099511627776) && (decide (0 ≤ c) && (decide (c ≤ 256) && decide (f + c ≤ 1099511627776)))))) := Lib.hid rfl
  by_cases h0 : 0 ≤ f
  case neg =>
    have e0 : decide (0 ≤ f) = false := decide_eq_false h0
    have HE : Hid (rangeB f c = false) := Lib.hid (by rw [HR.out, e0]; simp)
    clear h0
    go_enter Tryd.func60, Tryd.ntmps60
    go_wp2_with fail
    go_ret
    exact ⟨ret_bool HE.out.symm, rfl⟩
  have e0 : decide (0 ≤ f) = true := decide_eq_true h0
  by_cases h1 : f ≤ 1099511627776
  case neg =>
    have e1 : decide (f ≤ 1099511627776) = false := decide_eq_false h1
    have HE : Hid (rangeB f c = false) := Lib.hid (by rw [HR.out, e1]; simp)
    clear h0 h1
    go_enter Tryd.func60, Tryd.ntmps60
    go_wp2_with fail
    go_ret
    exact ⟨ret_bool HE.out.symm, rfl⟩
  have e1 : decide (f ≤ 1099511627776) = true := decide_eq_true h1
  by_cases h2 : 0 ≤ c
  case neg =>
    have e2 : decide (0 ≤ c) = false := decide_eq_false h2
    have HE : Hid (rangeB f c = false) := Lib.hid (by rw [HR.out, e2]; simp)
    clear h0 h1 h2
    go_enter Tryd.func60, Tryd.ntmps60
    go_wp2_with fail
    go_ret
    exact ⟨ret_bool HE.out.symm, rfl⟩
  have e2 : decide (0 ≤ c) = true := decide_eq_true h2
  by_cases h3 : c ≤ 256
  case neg =>
    have e3 : decide (c ≤ 256) = false := decide_eq_false h3
    have HE : Hid (rangeB f c = false) := Lib.hid (by rw [HR.out, e3]; simp)
    clear h0 h1 h2 h3
    go_enter Tryd.func60, Tryd.ntmps60
    go_wp2_with fail
    go_ret
    exact ⟨ret_bool HE.out.symm, rfl⟩
  have e3 : decide (c ≤ 256) = true := decide_eq_true h3
  have HE : Hid (rangeB f c = decide (f + c ≤ 1099511627776)) := Lib.hid (by rw [HR.out, e0, e1, e2, e3]; rfl)
  have m1 : IntKind.i64.wrap (f + c) = f + c := by rw [IntWalk.i64_in _ (by omega)]
  clear h0 h1 h2 h3
  go_enter Tryd.func60, Tryd.ntmps60
  go_wp2_with fail
  go_ret
  exact ⟨ret_bool HE.out.symm, rfl⟩
end Go.Proofs.YtgjgofjabdjclaaDoor
/- Contracts of ref44.nonce, ref44.Nonce, ref44.Answer. -/
namespace Go.Proofs.YtgjgofjabdjclaaDoor
open Go Go.RowKit Gf Sha

theorem BL.farR {w w' : World} {g B : Nat} {t : TypeId} {l : List Value} (h : BL w g t l) (hb : Below B w w') (hg : g < B) : BL w' g t l := (hb.block _ hg).trans h

set_option maxRecDepth 100000 in
set_option maxHeartbeats 2000000 in
theorem rnonce_any (Kx : Ky) (s : List UInt8) (i n : Nat) (w : World) (hK : okK Kx = true) (hs : s.length = 32) (hi : i < 16) (hn : n ≤ 1099511627776) :
    Calls Tryd.prog 58 #[Kx.val, .agg #[.string (strB s), .int .i64 (i : Int)], .int .i64 (n : Int)] w fun e w' => e = .returned (.string (strB (nonceL Kx s i n))) ∧ Below w.heap.size w w' := by
  have HK := Lib.hid hK
  have HS := Lib.hid hs
  have HI := Lib.hid hi
  have HN := Lib.hid hn
  have hwn := wrap_u64 n (by omega)
  have hwi := wrap_u64 i (by omega)
  have HNL : Hid (nonceL Kx s i n = tagL Kx.tk ((([110, 111, 110, 99, 101] ++ s) ++ uv i) ++ uv n)) := Lib.hid (by simp [nonceL])
  obtain ⟨R, hR⟩ : ∃ R, R = nonceL Kx s i n := ⟨_, rfl⟩
  rw [← hR] at HNL ⊢
  clear hK hs hi hn hR
  go_enter Tryd.func58, Tryd.ntmps58
  go_wp2_with (first
    | ((with_reducible show wpList _ _ _ (⟨some 3, _, _, _, _, _⟩ :: _) _ _); refine wpList_box _ rfl 29 (.tmp 0) rfl Kx.cells rfl ?_; intro w1 a1 a2 a3; have HG1 := Lib.hid a1; have HB1 := Lib.hid a2; have HZ1 := Lib.hid a3; clear a1 a2 a3)
    | ((with_reducible show wpList _ _ _ (⟨some 4, _, _, _, _, _⟩ :: _) _ _); refine wpList_box _ rfl 33 (.tmp 1) rfl [.string (strB s), .int .i64 (i : Int)] rfl ?_; intro w2 a1 a2 a3; have HP2 := Lib.hid a1; have HB2 := Lib.hid (below_then HB1.out (a2.mono (Nat.le_refl _))); have HG2 := Lib.hid (HG1.out.kept a2); clear a1 a2 a3)
    | ((with_reducible show wpList _ _ _ (⟨some 8, _, _, _, _, _⟩ :: _) _ _); refine wpList_bslice _ rfl 22 5 5 _ rfl #[(0, B 110), (1, B 111), (2, B 110), (3, B 99), (4, B 101)] (by rw [List.map_toArray]; rfl) (([110, 111, 110, 99, 101] : List UInt8).map B) (bsl5 110 111 110 99 101 _) ?_; intro w3 a1 a2 a3; have HC3 := Lib.hid a1; have HB3 := Lib.hid (below_then HB2.out a2); have HG3 := Lib.hid (HG2.out.kept a2); have HP3 := Lib.hid (HP2.out.kept a2); clear a1 a2 a3)
    | ((with_reducible show wpList _ _ _ (⟨some 9, _, _, _, _, _⟩ :: _) _ _); refine wpList_same _ rfl (.tmp 8) rfl w2.heap.size 5 5 [110, 111, 110, 99, 101] rfl HC3.out rfl (by decide) rfl ?_; intro w4 a1 a2 a3; have HC4 := Lib.hid a1; have HB4 : Hid (Below w.heap.size w w4) := Lib.hid (((Kp.of_below (S := fun _ => False) HB3.out).after a2 (fun i hi e => by have := HB2.out.size; omega)).below (Nat.le_refl _) (fun _ h => h.elim)); have HG4 := Lib.hid (HG3.out.kp a2 (by have := HG2.out.lt; show ¬ _ = _; omega)); have HP4 := Lib.hid (HP3.out.kp a2 (by have := HP2.out.lt; show ¬ _ = _; omega)); have q1 := HP4.out.get (j := 0) rfl; clear a1 a2 a3)
    | ((with_reducible show wpList _ _ _ (⟨some 12, _, _, _, _, _⟩ :: _) _ _); refine wpList_growS _ rfl (.tmp 9) (.tmp 11) rfl _ 5 5 [110, 111, 110, 99, 101] s rfl HC4.out rfl (by rw [HS.out]; decide) (by rw [HS.out]; decide) ?_; intro v5 w5 a1; have HO5 := Lib.hid a1.own; have HB5 := Lib.hid (below_thenB HB4.out HB4.out.size a1.below); have HX5 := Lib.hid a1.below; have HG5 := Lib.hid (HG4.out.kept a1.below); have HP5 := Lib.hid (HP4.out.kept a1.below); have q2 := HP5.out.get (j := 1) rfl; clear q1 a1)
    | (go_at_call 52; refine (rnum_any i w5 (by have := HI.out; omega)).mono ?_; rintro e w6 ⟨⟨g6, m6, c6, rfl, hm6, o6⟩, b6⟩; have HM6 := Lib.hid hm6; have HU6 := Lib.hid (uv_length i); obtain ⟨A6, c6', e6, s6⟩ := BS.of_own o6 (by have := HM6.out; have := HU6.out; unfold lim; omega); cases e6; have HS6 := Lib.hid s6; have HO6 := Lib.hid (own_below HO5.out b6); have HB6 := Lib.hid (below_thenB HB5.out HB5.out.size b6); have HX6 := Lib.hid (below_thenB HX5.out HX5.out.size b6); have HG6 := Lib.hid (HG5.out.kept b6); clear hm6 o6 b6 s6 q2)
    | ((with_reducible show wpList _ _ _ (⟨some 18, _, _, _, _, _⟩ :: _) _ _); refine wpList_appB _ rfl (.tmp 13) (.tmp 17) rfl w4.heap.size _ (5 + s.length) _ rfl HO6.out _ m6 c6 (uv i) rfl HS6.out (by have := HM6.out; have := HU6.out; rw [HS.out]; omega) HX6.out.size ?_; intro v7 w7 hp; have HO7 := Lib.hid hp.own; have HX7 := Lib.hid (hp.below HO6.out HX6.out (Nat.le_refl _) HX6.out.size); have HB7 := Lib.hid (hp.below HO6.out HB6.out HB4.out.size (by have := HB6.out.size; omega)); have HG7 := Lib.hid (HG6.out.farR (hp.below HO6.out (Below.refl w4.heap.size _) (Nat.le_refl _) HX6.out.size) HG4.out.lt); clear hp))
  have HQ : Hid (∀ w', Below w7.heap.size w7 w' → w'.cell? ⟨w.heap.size, 4, none⟩ = some (.string (strB Kx.tk))) := Lib.hid (fun w' hb => (HG7.out.kept hb).get (j := 4) rfl)
  have HWL : Hid (w.heap.size < w4.heap.size) := Lib.hid HG4.out.lt
  clear HG1 HG2 HG3 HG4 HG5 HG6 HP2 HP3 HP4 HP5 HB1 HB2 HB3 HB5 HB6 HX5 HX6 HO5 HO6 HC3 HC4 HS6
  refine Text.wp_region_text (fun w' => w'.cell? ⟨w.heap.size, 4, none⟩ = some (.string (strB Kx.tk))) [(0, 4), (2, 4), (3, 4), (4, 4), (1, 0), (5, 2), (6, 2), (7, 2), (8, 4)] (by kernel_rfl) (by kernel_rfl) (fun _ _ _ _ _ h => h) (HQ.out _ (Below.refl _ _).drew) ?_
  iterate 4 (refine Text.purek rfl rfl (fun K hK => ⟨_, fun w' => by go_simp <;> rfl, ?_⟩); go_simp; refine hK _ ?_; clear hK K)
  (refine Text.heldk rfl rfl (fun K hK => ⟨_, fun w' hw' => by go_simp <;> rfl, ?_⟩); go_simp; refine hK _ ?_; clear hK K)
  refine Text.eff rfl rfl (fun K hK => ?_)
  go_simp
  refine (rnum_any n w7.drew HN.out).mono ?_
  rintro e w8 ⟨⟨g8, m8, c8, rfl, hm8, o8⟩, b8⟩
  have HM8 := Lib.hid hm8
  have HU8 := Lib.hid (uv_length n)
  obtain ⟨A8, c8', e8, s8⟩ := BS.of_own o8 (by have := HM8.out; have := HU8.out; unfold lim; omega)
  cases e8
  have HS8 := Lib.hid s8
  have HX8 : Hid (Below w7.heap.size w7 w8) := Lib.hid ((Below.refl _ _).drew.trans (b8.mono (Nat.le_refl _)))
  have HO8 := Lib.hid (own_below HO7.out HX8.out)
  refine hK _ _ (HQ.out _ HX8.out) ?_
  clear hK K hm8 o8 b8 s8
  refine Text.eff rfl rfl (fun K hK => ?_)
  refine wp_appB _ (.tmp 21) (.tmp 24) rfl w4.heap.size _ (5 + s.length + m6) _ rfl HO8.out _ m8 c8 (uv n) rfl HS8.out (by have := HM8.out; have := HU8.out; have := HM6.out; have := HU6.out; rw [HS.out]; omega) (by have := HX7.out.size; have := HX8.out.size; omega) ?_
  intro v9 w9 hp
  have HX9 : Hid (Below w4.heap.size w4 w9) := Lib.hid (hp.below HO8.out (below_thenB HX7.out HX7.out.size HX8.out) (Nat.le_refl _) (by have := HX7.out.size; have := HX8.out.size; omega))
  have HQ9 : Hid (w9.cell? ⟨w.heap.size, 4, none⟩ = some (.string (strB Kx.tk))) := Lib.hid (by
    have h1 := hp.below HO8.out (Below.refl w4.heap.size _) (Nat.le_refl _) (by have := HX7.out.size; have := HX8.out.size; omega)
    exact ((HG7.out.kept HX8.out).farR h1 HWL.out).get (j := 4) rfl)
  obtain ⟨A9, c9, rfl, s9⟩ := BS.of_own hp.own (by have := HM8.out; have := HU8.out; have := HM6.out; have := HU6.out; rw [HS.out]; unfold lim; omega)
  have HS9 := Lib.hid s9
  refine hK _ _ HQ9.out ?_
  clear hK K hp s9
  refine Text.eff rfl rfl (fun K hK => ?_)
  go_simp
  refine (rtag_any A9 (5 + s.length + m6 + m8) c9 Kx.tk _ w9 HS9.out (by rw [okK_tk HK.out]; decide) (by have := HM8.out; have := HU8.out; have := HM6.out; have := HU6.out; rw [HS.out]; omega)).mono ?_
  rintro e w10 ⟨rfl, b10⟩
  rw [← HNL.out]
  have HQ10 := Lib.hid (cell_kept b10 HQ9.out)
  have HX10 := Lib.hid (below_thenB HX9.out HX9.out.size b10)
  refine hK _ _ HQ10.out ?_
  clear hK K b10
  (refine Text.purek rfl rfl (fun K hK => ⟨_, fun w' => by go_simp <;> rfl, ?_⟩); go_simp; refine hK _ ?_; clear hK K)
  refine Text.done ?_
  go_wp2_with fail
  go_ret
  exact ⟨rfl, below_thenB HB4.out HB4.out.size HX10.out⟩
end Go.Proofs.YtgjgofjabdjclaaDoor
/- Contracts of the reference: Nonce, Answer, and Tokens where an argument is not valid. -/
namespace Go.Proofs.YtgjgofjabdjclaaDoor
open Go Go.RowKit Gf Sha

set_option maxRecDepth 100000 in
set_option maxHeartbeats 4000000 in
theorem rnonce_ok (Kx : Ky) (s : List UInt8) (j n : Nat) (w : World) (h : nonB Kx s (j : Int) (n : Int) = true) :
    Calls Tryd.prog 30 #[Kx.val, .agg #[.string (strB s), .int .i64 (j : Int)], .int .i64 (n : Int)] w fun e w' => e = .returned (.tuple #[.string (strB (nonceL Kx s j n)), .int .i64 0]) ∧ Below w.heap.size w w' := by
  simp only [nonB, Bool.and_eq_true, decide_eq_true_eq] at h
  obtain ⟨hK, hI, _, hn⟩ := h
  have HK := Lib.hid hK
  have HI := Lib.hid hI
  have hI2 : s.length = 32 ∧ j < 16 := by
    simp only [idB, Bool.and_eq_true, decide_eq_true_eq] at hI
    exact ⟨hI.1, by omega⟩
  have HN := Lib.hid hI2
  clear hK hI hI2
  obtain ⟨i, hi⟩ : ∃ i : Int, i = (j : Int) := ⟨_, rfl⟩
  rw [← hi]
  rw [← hi] at HI
  have HJ := Lib.hid hi
  clear hi
  go_enter Tryd.func30, Tryd.ntmps30
  go_wp2_with (first
    | ((with_reducible show wpList _ _ _ (⟨some 3, _, _, _, _, _⟩ :: _) _ _); refine wpList_box _ rfl 29 (.tmp 0) rfl Kx.cells rfl ?_; intro w1 a1 a2 a3; have HG1 := Lib.hid a1; have HB1 := Lib.hid a2; clear a1 a2 a3)
    | ((with_reducible show wpList _ _ _ (⟨some 4, _, _, _, _, _⟩ :: _) _ _); refine wpList_box _ rfl 33 (.tmp 1) rfl [.string (strB s), .int .i64 i] rfl ?_; intro w2 a1 a2 a3; have HP2 := Lib.hid a1; have HB2 := Lib.hid (below_then HB1.out (a2.mono (Nat.le_refl _))); have HG2 := Lib.hid (HG1.out.kept a2); clear a1 a2 a3)
    | ((with_reducible show wpList _ _ _ (⟨some 8, _, _, _, _, _⟩ :: _) _ _); refine wpList_loadv _ rfl 29 (.tmp 3) rfl 5 (by kernel_rfl) w.heap.size 0 Kx.cells rfl (BL.all HG2.out) rfl ?_)
    | (go_at_call 56; refine (rkeys_any Kx w2).mono ?_; rintro e w3 ⟨rfl, b1⟩; rw [HK.out]; have HB3 := Lib.hid (below_thenB HB2.out HB2.out.size b1); have HG3 := Lib.hid (HG2.out.kept b1); have HP3 := Lib.hid (HP2.out.kept b1); have q0 := HP3.out.get (j := 0) rfl; have q1 := HP3.out.get (j := 1) rfl; clear b1)
    | (go_at_call 57; refine (rpiece_any s i w3).mono ?_; rintro e w4 ⟨rfl, b1⟩; rw [HI.out]; have HB4 := Lib.hid (below_thenB HB3.out HB3.out.size b1); have HG4 := Lib.hid (HG3.out.kept b1); have HP4 := Lib.hid (HP3.out.kept b1); clear b1 q0 q1)
    | ((with_reducible show wpList _ _ _ (⟨some 24, _, _, _, _, _⟩ :: _) _ _); refine wpList_loadv _ rfl 29 (.tmp 3) rfl 5 (by kernel_rfl) w.heap.size 0 Kx.cells rfl (BL.all HG4.out) rfl ?_)
    | ((with_reducible show wpList _ _ _ (⟨some 25, _, _, _, _, _⟩ :: _) _ _); refine wpList_loadv _ rfl 33 (.tmp 4) rfl 2 (by kernel_rfl) w1.heap.size 0 [.string (strB s), .int .i64 i] rfl (BL.all HP4.out) rfl ?_)
    | (go_at_call 58; rw [HJ.out]; refine (rnonce_any Kx s j n w4 HK.out HN.out.1 HN.out.2 (by omega)).mono ?_; rintro e w5 ⟨rfl, b1⟩; have HB5 := Lib.hid (below_thenB HB4.out HB4.out.size b1); clear b1))
  go_ret2
  exact ⟨rfl, HB5.out⟩

set_option maxRecDepth 100000 in
set_option maxHeartbeats 4000000 in
theorem rnonce_not (Kx : Ky) (s : List UInt8) (i n : Int) (w : World) (h : nonB Kx s i n = false) :
    Calls Tryd.prog 30 #[Kx.val, .agg #[.string (strB s), .int .i64 i], .int .i64 n] w fun e w' => e = .returned (.tuple #[.string (strB []), .int .i64 1]) ∧ Below w.heap.size w w' := by
  by_cases hK : okK Kx = true
  · have HK := Lib.hid hK
    by_cases hI : idB s i = true
    · have HI := Lib.hid hI
      rw [nonB, hK, hI, Bool.true_and, Bool.true_and] at h
      by_cases h0 : n < 0
      · clear hK hI h
        go_enter Tryd.func30, Tryd.ntmps30
        go_wp2_with (first
    | ((with_reducible show wpList _ _ _ (⟨some 3, _, _, _, _, _⟩ :: _) _ _); refine wpList_box _ rfl 29 (.tmp 0) rfl Kx.cells rfl ?_; intro w1 a1 a2 a3; have HG1 := Lib.hid a1; have HB1 := Lib.hid a2; clear a1 a2 a3)
    | ((with_reducible show wpList _ _ _ (⟨some 4, _, _, _, _, _⟩ :: _) _ _); refine wpList_box _ rfl 33 (.tmp 1) rfl [.string (strB s), .int .i64 i] rfl ?_; intro w2 a1 a2 a3; have HP2 := Lib.hid a1; have HB2 := Lib.hid (below_then HB1.out (a2.mono (Nat.le_refl _))); have HG2 := Lib.hid (HG1.out.kept a2); clear a1 a2 a3)
    | ((with_reducible show wpList _ _ _ (⟨some 8, _, _, _, _, _⟩ :: _) _ _); refine wpList_loadv _ rfl 29 (.tmp 3) rfl 5 (by kernel_rfl) w.heap.size 0 Kx.cells rfl (BL.all HG2.out) rfl ?_)
    | (go_at_call 56; refine (rkeys_any Kx w2).mono ?_; rintro e w3 ⟨rfl, b1⟩; rw [HK.out]; have HB3 := Lib.hid (below_thenB HB2.out HB2.out.size b1); have HG3 := Lib.hid (HG2.out.kept b1); have HP3 := Lib.hid (HP2.out.kept b1); have q0 := HP3.out.get (j := 0) rfl; have q1 := HP3.out.get (j := 1) rfl; clear b1)
    | (go_at_call 57; refine (rpiece_any s i w3).mono ?_; rintro e w4 ⟨rfl, b1⟩; rw [HI.out]; have HB4 := Lib.hid (below_thenB HB3.out HB3.out.size b1); have HG4 := Lib.hid (HG3.out.kept b1); have HP4 := Lib.hid (HP3.out.kept b1); clear b1 q0 q1))
        go_ret2
        exact ⟨rfl, HB4.out⟩
      · have h1 : 1099511627776 < n := by
          rw [decide_eq_true (by omega : 0 ≤ n), Bool.true_and] at h
          simpa using h
        clear hK hI h
        go_enter Tryd.func30, Tryd.ntmps30
        go_wp2_with (first
    | ((with_reducible show wpList _ _ _ (⟨some 3, _, _, _, _, _⟩ :: _) _ _); refine wpList_box _ rfl 29 (.tmp 0) rfl Kx.cells rfl ?_; intro w1 a1 a2 a3; have HG1 := Lib.hid a1; have HB1 := Lib.hid a2; clear a1 a2 a3)
    | ((with_reducible show wpList _ _ _ (⟨some 4, _, _, _, _, _⟩ :: _) _ _); refine wpList_box _ rfl 33 (.tmp 1) rfl [.string (strB s), .int .i64 i] rfl ?_; intro w2 a1 a2 a3; have HP2 := Lib.hid a1; have HB2 := Lib.hid (below_then HB1.out (a2.mono (Nat.le_refl _))); have HG2 := Lib.hid (HG1.out.kept a2); clear a1 a2 a3)
    | ((with_reducible show wpList _ _ _ (⟨some 8, _, _, _, _, _⟩ :: _) _ _); refine wpList_loadv _ rfl 29 (.tmp 3) rfl 5 (by kernel_rfl) w.heap.size 0 Kx.cells rfl (BL.all HG2.out) rfl ?_)
    | (go_at_call 56; refine (rkeys_any Kx w2).mono ?_; rintro e w3 ⟨rfl, b1⟩; rw [HK.out]; have HB3 := Lib.hid (below_thenB HB2.out HB2.out.size b1); have HG3 := Lib.hid (HG2.out.kept b1); have HP3 := Lib.hid (HP2.out.kept b1); have q0 := HP3.out.get (j := 0) rfl; have q1 := HP3.out.get (j := 1) rfl; clear b1)
    | (go_at_call 57; refine (rpiece_any s i w3).mono ?_; rintro e w4 ⟨rfl, b1⟩; rw [HI.out]; have HB4 := Lib.hid (below_thenB HB3.out HB3.out.size b1); have HG4 := Lib.hid (HG3.out.kept b1); have HP4 := Lib.hid (HP3.out.kept b1); clear b1 q0 q1))
        go_ret2
        exact ⟨rfl, HB4.out⟩
    · simp only [Bool.not_eq_true] at hI
      have HI := Lib.hid hI
      clear hK hI h
      go_enter Tryd.func30, Tryd.ntmps30
      go_wp2_with (first
    | ((with_reducible show wpList _ _ _ (⟨some 3, _, _, _, _, _⟩ :: _) _ _); refine wpList_box _ rfl 29 (.tmp 0) rfl Kx.cells rfl ?_; intro w1 a1 a2 a3; have HG1 := Lib.hid a1; have HB1 := Lib.hid a2; clear a1 a2 a3)
    | ((with_reducible show wpList _ _ _ (⟨some 4, _, _, _, _, _⟩ :: _) _ _); refine wpList_box _ rfl 33 (.tmp 1) rfl [.string (strB s), .int .i64 i] rfl ?_; intro w2 a1 a2 a3; have HP2 := Lib.hid a1; have HB2 := Lib.hid (below_then HB1.out (a2.mono (Nat.le_refl _))); have HG2 := Lib.hid (HG1.out.kept a2); clear a1 a2 a3)
    | ((with_reducible show wpList _ _ _ (⟨some 8, _, _, _, _, _⟩ :: _) _ _); refine wpList_loadv _ rfl 29 (.tmp 3) rfl 5 (by kernel_rfl) w.heap.size 0 Kx.cells rfl (BL.all HG2.out) rfl ?_)
    | (go_at_call 56; refine (rkeys_any Kx w2).mono ?_; rintro e w3 ⟨rfl, b1⟩; rw [HK.out]; have HB3 := Lib.hid (below_thenB HB2.out HB2.out.size b1); have HG3 := Lib.hid (HG2.out.kept b1); have HP3 := Lib.hid (HP2.out.kept b1); have q0 := HP3.out.get (j := 0) rfl; have q1 := HP3.out.get (j := 1) rfl; clear b1)
    | (go_at_call 57; refine (rpiece_any s i w3).mono ?_; rintro e w4 ⟨rfl, b1⟩; rw [HI.out]; have HB4 := Lib.hid (below_thenB HB3.out HB3.out.size b1); have HG4 := Lib.hid (HG3.out.kept b1); have HP4 := Lib.hid (HP3.out.kept b1); clear b1 q0 q1))
      go_ret2
      exact ⟨rfl, HB4.out⟩
  · simp only [Bool.not_eq_true] at hK
    have HK := Lib.hid hK
    clear hK h
    go_enter Tryd.func30, Tryd.ntmps30
    go_wp2_with (first
    | ((with_reducible show wpList _ _ _ (⟨some 3, _, _, _, _, _⟩ :: _) _ _); refine wpList_box _ rfl 29 (.tmp 0) rfl Kx.cells rfl ?_; intro w1 a1 a2 a3; have HG1 := Lib.hid a1; have HB1 := Lib.hid a2; clear a1 a2 a3)
    | ((with_reducible show wpList _ _ _ (⟨some 4, _, _, _, _, _⟩ :: _) _ _); refine wpList_box _ rfl 33 (.tmp 1) rfl [.string (strB s), .int .i64 i] rfl ?_; intro w2 a1 a2 a3; have HP2 := Lib.hid a1; have HB2 := Lib.hid (below_then HB1.out (a2.mono (Nat.le_refl _))); have HG2 := Lib.hid (HG1.out.kept a2); clear a1 a2 a3)
    | ((with_reducible show wpList _ _ _ (⟨some 8, _, _, _, _, _⟩ :: _) _ _); refine wpList_loadv _ rfl 29 (.tmp 3) rfl 5 (by kernel_rfl) w.heap.size 0 Kx.cells rfl (BL.all HG2.out) rfl ?_)
    | (go_at_call 56; refine (rkeys_any Kx w2).mono ?_; rintro e w3 ⟨rfl, b1⟩; rw [HK.out]; have HB3 := Lib.hid (below_thenB HB2.out HB2.out.size b1); have HG3 := Lib.hid (HG2.out.kept b1); have HP3 := Lib.hid (HP2.out.kept b1); have q0 := HP3.out.get (j := 0) rfl; have q1 := HP3.out.get (j := 1) rfl; clear b1))
    go_ret2
    exact ⟨rfl, HB3.out⟩

set_option maxRecDepth 100000 in
set_option maxHeartbeats 4000000 in
theorem rtokens_not (Kx : Ky) (s : List UInt8) (i : Int) (A : Option Addr) (m cp : Nat) (f c : Int) (w : World) (h : (okK Kx && (idB s i && (dataB m && rangeB f c))) = false) :
    Calls Tryd.prog 32 #[Kx.val, .agg #[.string (strB s), .int .i64 i], .slice A m cp, .int .i64 f, .int .i64 c] w fun e w' => e = .returned (.tuple #[.slice none 0 0, .int .i64 1]) ∧ Below w.heap.size w w' := by
  by_cases hK : okK Kx = true
  · have HK := Lib.hid hK
    by_cases hI : idB s i = true
    · have HI := Lib.hid hI
      by_cases hD : dataB m = true
      · have HD := Lib.hid hD
        rw [hK, hI, hD, Bool.true_and, Bool.true_and, Bool.true_and] at h
        have HR := Lib.hid h
        clear hK hI hD h
        go_enter Tryd.func32, Tryd.ntmps32
        go_wp2_with (first
    | ((with_reducible show wpList _ _ _ (⟨some 5, _, _, _, _, _⟩ :: _) _ _); refine wpList_box _ rfl 29 (.tmp 0) rfl Kx.cells rfl ?_; intro w1 a1 a2 a3; have HG1 := Lib.hid a1; have HB1 := Lib.hid a2; clear a1 a2 a3)
    | ((with_reducible show wpList _ _ _ (⟨some 6, _, _, _, _, _⟩ :: _) _ _); refine wpList_box _ rfl 33 (.tmp 1) rfl [.string (strB s), .int .i64 i] rfl ?_; intro w2 a1 a2 a3; have HP2 := Lib.hid a1; have HB2 := Lib.hid (below_then HB1.out (a2.mono (Nat.le_refl _))); have HG2 := Lib.hid (HG1.out.kept a2); clear a1 a2 a3)
    | ((with_reducible show wpList _ _ _ (⟨some 15, _, _, _, _, _⟩ :: _) _ _); refine wpList_loadv _ rfl 29 (.tmp 5) rfl 5 (by kernel_rfl) w.heap.size 0 Kx.cells rfl (BL.all HG2.out) rfl ?_)
    | (go_at_call 56; refine (rkeys_any Kx w2).mono ?_; rintro e w3 ⟨rfl, b1⟩; rw [HK.out]; have HB3 := Lib.hid (below_thenB HB2.out HB2.out.size b1); have HG3 := Lib.hid (HG2.out.kept b1); have HP3 := Lib.hid (HP2.out.kept b1); have q0 := HP3.out.get (j := 0) rfl; have q1 := HP3.out.get (j := 1) rfl; clear b1)
    | (go_at_call 57; refine (rpiece_any s i w3).mono ?_; rintro e w4 ⟨rfl, b1⟩; rw [HI.out]; have HB4 := Lib.hid (below_thenB HB3.out HB3.out.size b1); have HG4 := Lib.hid (HG3.out.kept b1); have HP4 := Lib.hid (HP3.out.kept b1); clear b1 q0 q1)
    | (go_at_call 59; refine (rdata_any A m cp w4).mono ?_; rintro e w' ⟨rfl, rfl⟩; rw [HD.out])
    | (go_at_call 60; refine (rnums_any f c w4).mono ?_; rintro e w' ⟨rfl, rfl⟩; rw [HR.out]))
        go_ret2
        exact ⟨rfl, HB4.out⟩
      · simp only [Bool.not_eq_true] at hD
        have HD := Lib.hid hD
        clear hK hI hD h
        go_enter Tryd.func32, Tryd.ntmps32
        go_wp2_with (first
    | ((with_reducible show wpList _ _ _ (⟨some 5, _, _, _, _, _⟩ :: _) _ _); refine wpList_box _ rfl 29 (.tmp 0) rfl Kx.cells rfl ?_; intro w1 a1 a2 a3; have HG1 := Lib.hid a1; have HB1 := Lib.hid a2; clear a1 a2 a3)
    | ((with_reducible show wpList _ _ _ (⟨some 6, _, _, _, _, _⟩ :: _) _ _); refine wpList_box _ rfl 33 (.tmp 1) rfl [.string (strB s), .int .i64 i] rfl ?_; intro w2 a1 a2 a3; have HP2 := Lib.hid a1; have HB2 := Lib.hid (below_then HB1.out (a2.mono (Nat.le_refl _))); have HG2 := Lib.hid (HG1.out.kept a2); clear a1 a2 a3)
    | ((with_reducible show wpList _ _ _ (⟨some 15, _, _, _, _, _⟩ :: _) _ _); refine wpList_loadv _ rfl 29 (.tmp 5) rfl 5 (by kernel_rfl) w.heap.size 0 Kx.cells rfl (BL.all HG2.out) rfl ?_)
    | (go_at_call 56; refine (rkeys_any Kx w2).mono ?_; rintro e w3 ⟨rfl, b1⟩; rw [HK.out]; have HB3 := Lib.hid (below_thenB HB2.out HB2.out.size b1); have HG3 := Lib.hid (HG2.out.kept b1); have HP3 := Lib.hid (HP2.out.kept b1); have q0 := HP3.out.get (j := 0) rfl; have q1 := HP3.out.get (j := 1) rfl; clear b1)
    | (go_at_call 57; refine (rpiece_any s i w3).mono ?_; rintro e w4 ⟨rfl, b1⟩; rw [HI.out]; have HB4 := Lib.hid (below_thenB HB3.out HB3.out.size b1); have HG4 := Lib.hid (HG3.out.kept b1); have HP4 := Lib.hid (HP3.out.kept b1); clear b1 q0 q1)
    | (go_at_call 59; refine (rdata_any A m cp w4).mono ?_; rintro e w' ⟨rfl, rfl⟩; rw [HD.out]))
        go_ret2
        exact ⟨rfl, HB4.out⟩
    · simp only [Bool.not_eq_true] at hI
      have HI := Lib.hid hI
      clear hK hI h
      go_enter Tryd.func32, Tryd.ntmps32
      go_wp2_with (first
    | ((with_reducible show wpList _ _ _ (⟨some 5, _, _, _, _, _⟩ :: _) _ _); refine wpList_box _ rfl 29 (.tmp 0) rfl Kx.cells rfl ?_; intro w1 a1 a2 a3; have HG1 := Lib.hid a1; have HB1 := Lib.hid a2; clear a1 a2 a3)
    | ((with_reducible show wpList _ _ _ (⟨some 6, _, _, _, _, _⟩ :: _) _ _); refine wpList_box _ rfl 33 (.tmp 1) rfl [.string (strB s), .int .i64 i] rfl ?_; intro w2 a1 a2 a3; have HP2 := Lib.hid a1; have HB2 := Lib.hid (below_then HB1.out (a2.mono (Nat.le_refl _))); have HG2 := Lib.hid (HG1.out.kept a2); clear a1 a2 a3)
    | ((with_reducible show wpList _ _ _ (⟨some 15, _, _, _, _, _⟩ :: _) _ _); refine wpList_loadv _ rfl 29 (.tmp 5) rfl 5 (by kernel_rfl) w.heap.size 0 Kx.cells rfl (BL.all HG2.out) rfl ?_)
    | (go_at_call 56; refine (rkeys_any Kx w2).mono ?_; rintro e w3 ⟨rfl, b1⟩; rw [HK.out]; have HB3 := Lib.hid (below_thenB HB2.out HB2.out.size b1); have HG3 := Lib.hid (HG2.out.kept b1); have HP3 := Lib.hid (HP2.out.kept b1); have q0 := HP3.out.get (j := 0) rfl; have q1 := HP3.out.get (j := 1) rfl; clear b1)
    | (go_at_call 57; refine (rpiece_any s i w3).mono ?_; rintro e w4 ⟨rfl, b1⟩; rw [HI.out]; have HB4 := Lib.hid (below_thenB HB3.out HB3.out.size b1); have HG4 := Lib.hid (HG3.out.kept b1); have HP4 := Lib.hid (HP3.out.kept b1); clear b1 q0 q1))
      go_ret2
      exact ⟨rfl, HB4.out⟩
  · simp only [Bool.not_eq_true] at hK
    have HK := Lib.hid hK
    clear hK h
    go_enter Tryd.func32, Tryd.ntmps32
    go_wp2_with (first
    | ((with_reducible show wpList _ _ _ (⟨some 5, _, _, _, _, _⟩ :: _) _ _); refine wpList_box _ rfl 29 (.tmp 0) rfl Kx.cells rfl ?_; intro w1 a1 a2 a3; have HG1 := Lib.hid a1; have HB1 := Lib.hid a2; clear a1 a2 a3)
    | ((with_reducible show wpList _ _ _ (⟨some 6, _, _, _, _, _⟩ :: _) _ _); refine wpList_box _ rfl 33 (.tmp 1) rfl [.string (strB s), .int .i64 i] rfl ?_; intro w2 a1 a2 a3; have HP2 := Lib.hid a1; have HB2 := Lib.hid (below_then HB1.out (a2.mono (Nat.le_refl _))); have HG2 := Lib.hid (HG1.out.kept a2); clear a1 a2 a3)
    | ((with_reducible show wpList _ _ _ (⟨some 15, _, _, _, _, _⟩ :: _) _ _); refine wpList_loadv _ rfl 29 (.tmp 5) rfl 5 (by kernel_rfl) w.heap.size 0 Kx.cells rfl (BL.all HG2.out) rfl ?_)
    | (go_at_call 56; refine (rkeys_any Kx w2).mono ?_; rintro e w3 ⟨rfl, b1⟩; rw [HK.out]; have HB3 := Lib.hid (below_thenB HB2.out HB2.out.size b1); have HG3 := Lib.hid (HG2.out.kept b1); have HP3 := Lib.hid (HP2.out.kept b1); have q0 := HP3.out.get (j := 0) rfl; have q1 := HP3.out.get (j := 1) rfl; clear b1))
    go_ret2
    exact ⟨rfl, HB3.out⟩

theorem ranswer_no (k : List UInt8) (A : Option Addr) (n c : Nat) (w : World) (h : (decide (k.length = 32) && dataB n) = false) :
    Calls Tryd.prog 31 #[.string (strB k), .slice A n c] w fun e w' => e = .returned (.tuple #[.string (strB []), .int .i64 1]) ∧ Below w.heap.size w w' := by
  by_cases h32 : k.length = 32
  · have h1 : (((strB k).size : Int) != 32) = false := by rw [strB_size, h32]; rfl
    rw [decide_eq_true h32, Bool.true_and] at h
    have HD := Lib.hid h
    clear h32 h
    go_enter Tryd.func31, Tryd.ntmps31
    go_wp2_with (go_at_call 59; refine (rdata_any A n c w).mono ?_; rintro e w' ⟨rfl, rfl⟩; rw [HD.out])
    go_ret2
    exact ⟨rfl, Below.refl _ _⟩
  · have h1 : (((strB k).size : Int) != 32) = true := by rw [strB_size]; simp only [bne_iff_ne, ne_eq]; omega
    clear h32 h
    go_enter Tryd.func31, Tryd.ntmps31
    go_wp2_with fail
    go_ret2
    exact ⟨rfl, Below.refl _ _⟩
theorem ranswer_yes (k : List UInt8) (A : Option Addr) (n c : Nat) (l : List UInt8) (w : World) (hl : BS w A n c l) (h32 : k.length = 32) (hd : dataB n = true) :
    Calls Tryd.prog 31 #[.string (strB k), .slice A n c] w fun e w' => e = .returned (.tuple #[.string (strB (tagL k l)), .int .i64 0]) ∧ Below w.heap.size w w' := by
  have h1 : (((strB k).size : Int) != 32) = false := by rw [strB_size, h32]; rfl
  have HD := Lib.hid hd
  have H := Lib.hid hl
  have H32 := Lib.hid h32
  have HN : Hid (n ≤ 1000000) := Lib.hid (by simp only [dataB, Bool.and_eq_true, decide_eq_true_eq] at hd; omega)
  obtain ⟨R, hR⟩ : ∃ R, R = tagL k l := ⟨_, rfl⟩
  have HR := Lib.hid hR
  rw [← hR]
  clear h32 hd hl hR
  go_enter Tryd.func31, Tryd.ntmps31
  go_wp2_with (first
    | (go_at_call 59; refine (rdata_any A n c w).mono ?_; rintro e w' ⟨rfl, rfl⟩; rw [HD.out])
    | (go_at_call 51; refine (rtag_any A n c k l w H.out (by rw [H32.out]; decide) HN.out).mono ?_; rintro e w' ⟨rfl, b1⟩; rw [← HR.out]))
  go_ret2
  exact ⟨rfl, b1⟩
end Go.Proofs.YtgjgofjabdjclaaDoor
/- Contract of ref44.Tokens. -/
namespace Go.Proofs.YtgjgofjabdjclaaDoor
open Go Go.RowKit Gf Sha

section
variable {P : Program} (w : World) {o : Oper} {a : Act} {Q : Exit → Act → World → Prop} {K : Act → World → Prop}
theorem wp_appRW (sl x : Operand) (t te : TypeId) (s : Nat) (i : TypeInfo) (z : Value) (hop : o.op = .call { callee := .builtin .append, args := #[sl, x], argTypes := #[t, t] })
    (ht : P.underlying t = some (.slice te)) (hi : P.info? te = some i) (hz : i.zero = some z) (hs : i.size = s) (hzs : z.cells.size = s) (v : Value) (n : Nat) (l : List Value) (hv : a.eval sl = v) (h : RW w te s v n l)
    (g : Nat) (xs : List Value) (hx : a.eval x = .slice (some ⟨g, 0, none⟩) 1 1) (hbl : BL w g te xs) (hxl : xs.length = s) (h1 : ∀ u ∈ xs, u.oneCell' = true) (hb : (n + 1) * i.bytes ≤ 140737488355328) (hn : n + 1 ≤ 140737488355328)
    (hK : ∀ v' w', AppR w te s v n 1 l xs v' w' → K (a.put o.dst v') w') : o.wp P a w K Q := by
  have hrow : RW w te s (.slice (some ⟨g, 0, none⟩) 1 1) 1 xs := RW.of_blk hbl (by omega) (by decide)
  have hsrc : Src P s t (.slice (some ⟨g, 0, none⟩) 1 1) 1 xs w := ⟨.inl ⟨_, ht⟩, fun _ => rfl, hrow.firstCells, RW.firstCells hrow.drew, by omega, h1⟩
  obtain ⟨v', w', hr, h2⟩ := run_appRW (rt := o.type) ht hi hz hs hzs h hsrc (by decide) hb hn
  unfold Oper.wp execOp
  simp only [hop, resolve, invoke, builtin, Sem.run_bind, Sem.run_pure, Result.andThen_ok, List.map_toArray, List.map_cons, List.map_nil, hv, hx, hr]
  exact hK _ _ h2
end
theorem bslTok (s n t : List UInt8) (i : Int) (w : World) : (Instr.buildSlice 24 1 #[(0, .agg #[.string (strB s), .int .i64 i, .string (strB n), .string (strB t)])]).run Tryd.prog w = .ok (.slice (some ⟨w.heap.size, 0, none⟩) 1 1) (w.alloc (.cells [.string (strB s), .int .i64 i, .string (strB n), .string (strB t)].toArray 37)) := by kernel_rfl
theorem infoTk4 : (Tryd.prog.info? 37).map (fun i => (i.zero, i.size, i.bytes)) = some (some (.agg Tk.zero.cells.toArray), 4, 56) := infoTok
theorem tokL_take (K : Ky) (s d : List UInt8) (i f k : Nat) : (tokL K s i d f (k + 1)).flatMap Tk.cells = (tokL K s i d f k).flatMap Tk.cells ++ (tokN K s i d (f + k)).cells := by
  simp [tokL, List.range_succ]
/-- What the reference's Tokens leaves. -/
def RTokRet (l : List Tk) (w : World) (e : Ending) (w' : World) : Prop :=
  ∃ v n, e = .returned (.tuple #[v, .int .i64 0]) ∧ l.length = n ∧ RW w' 37 4 v n (l.flatMap Tk.cells) ∧ Below w.heap.size w w'

set_option maxRecDepth 100000 in
set_option maxHeartbeats 4000000 in
theorem rtokens_yes (Kx : Ky) (s d : List UInt8) (i n cp f c : Nat) (A : Option Addr) (w : World) (hd : BS w A n cp d) (hK : okK Kx = true) (hI : idB s i = true) (hD : dataB n = true) (hR : rangeB f c = true) :
    Calls Tryd.prog 32 #[Kx.val, .agg #[.string (strB s), .int .i64 (i : Int)], .slice A n cp, .int .i64 (f : Int), .int .i64 (c : Int)] w (RTokRet (tokL Kx s i d f c) w) := by
  have HD := Lib.hid hd
  have HK := Lib.hid hK
  have HI := Lib.hid hI
  have HDB := Lib.hid hD
  have HN1 : Hid (n ≤ 1000000) := Lib.hid (by simp only [dataB, Bool.and_eq_true, decide_eq_true_eq] at hD; omega)
  have HR := Lib.hid hR
  have hI2 : s.length = 32 ∧ i < 16 := by
    simp only [idB, Bool.and_eq_true, decide_eq_true_eq] at hI
    exact ⟨hI.1, by omega⟩
  have hR2 : (f : Int) ≤ 1099511627776 ∧ (c : Int) ≤ 256 ∧ (f : Int) + c ≤ 1099511627776 := by
    simp only [rangeB, Bool.and_eq_true, decide_eq_true_eq] at hR
    exact ⟨hR.2.1, hR.2.2.2.1, hR.2.2.2.2⟩
  have HS32 := Lib.hid hI2.1
  have HI16 := Lib.hid hI2.2
  obtain ⟨hf1, hc1, hfc⟩ := hR2
  clear hd hK hI hD hR hI2
  go_enter Tryd.func32, Tryd.ntmps32
  go_wp2_with (first
    | ((with_reducible show wpList _ _ _ (⟨some 5, _, _, _, _, _⟩ :: _) _ _); refine wpList_box _ rfl 29 (.tmp 0) rfl Kx.cells rfl ?_; intro w1 a1 a2 a3; have HG1 := Lib.hid a1; have HB1 := Lib.hid a2; have HZ1 := Lib.hid a3; clear a1 a2 a3)
    | ((with_reducible show wpList _ _ _ (⟨some 6, _, _, _, _, _⟩ :: _) _ _); refine wpList_box _ rfl 33 (.tmp 1) rfl [.string (strB s), .int .i64 (i : Int)] rfl ?_; intro w2 a1 a2 a3; have HP2 := Lib.hid a1; have HB2 := Lib.hid (below_then HB1.out (a2.mono (Nat.le_refl _))); have HG2 := Lib.hid (HG1.out.kept a2); clear a1 a2 a3)
    | ((with_reducible show wpList _ _ _ (⟨some 15, _, _, _, _, _⟩ :: _) _ _); refine wpList_loadv _ rfl 29 (.tmp 5) rfl 5 (by kernel_rfl) w.heap.size 0 Kx.cells rfl (BL.all HG2.out) rfl ?_)
    | (go_at_call 56; refine (rkeys_any Kx w2).mono ?_; rintro e w3 ⟨rfl, b1⟩; rw [HK.out]; have HB3 := Lib.hid (below_thenB HB2.out HB2.out.size b1); have HG3 := Lib.hid (HG2.out.kept b1); have HP3 := Lib.hid (HP2.out.kept b1); have q0 := HP3.out.get (j := 0) rfl; have q1 := HP3.out.get (j := 1) rfl; clear b1)
    | (go_at_call 57; refine (rpiece_any s (i : Int) w3).mono ?_; rintro e w4 ⟨rfl, b1⟩; rw [HI.out]; have HB4 := Lib.hid (below_thenB HB3.out HB3.out.size b1); have HG4 := Lib.hid (HG3.out.kept b1); have HP4 := Lib.hid (HP3.out.kept b1); clear b1 q0 q1)
    | (go_at_call 59; refine (rdata_any A n cp w4).mono ?_; rintro e w' ⟨rfl, rfl⟩; rw [HDB.out])
    | (go_at_call 60; refine (rnums_any (f : Int) (c : Int) w4).mono ?_; rintro e w' ⟨rfl, rfl⟩; rw [HR.out]))
  have HT0 : Hid (RW (w4.alloc (.cells #[] 37)) 37 4 (.slice (some ⟨w4.heap.size, 0, none⟩) 0 0) 0 ((tokL Kx s i d f 0).flatMap Tk.cells)) := Lib.hid (RW.of_blk (l := []) (BL.new w4 37 []) rfl (by decide))
  have HX0 : Hid (Below w4.heap.size w4 (w4.alloc (.cells #[] 37))) := Lib.hid ((Below.refl _ _).alloc (Nat.le_refl _) _)
  have hcl : 0 ≤ (c : Int) := by omega
  go_loopw [12, 13] (fun vv iv wr => ∃ (k q : Nat) (v : Value), k ≤ c ∧ q ≤ 1099511627776 ∧ iv = .int .i64 (q : Int) ∧ v = vv ∧ Hid (q = f + k) ∧ Hid (RW wr 37 4 v k ((tokL Kx s i d f k).flatMap Tk.cells)) ∧ Hid (∀ b, v.ownBlock = some b → w4.heap.size ≤ b) ∧ Hid (Below w4.heap.size w4 wr)) (fun _ iv _ => f + c - (intOf iv).toNat)
  case atStart => exact ⟨0, f, _, by omega, by omega, rfl, rfl, Lib.hid rfl, HT0, Lib.hid (fun b hb => by cases hb; exact Nat.le_refl _), HX0⟩
  case round =>
    obtain ⟨k, q, v, hk, hq1, rfl, rfl, hq, hrw, hown, hx⟩ := hrel
    obtain ⟨wx, hwx⟩ : ∃ x, x = wr := ⟨_, rfl⟩
    rw [← hwx] at hrw hx ⊢
    clear hwx
    by_cases hlt : k < c
    · have HGx := Lib.hid (HG4.out.kept hx.out)
      have HPx := Lib.hid (HP4.out.kept hx.out)
      have HDx := Lib.hid ((HD.out.kept HB4.out).kept hx.out)
      have hqlt : (q : Int) < (f : Int) + (c : Int) := by have := hq.out; omega
      go_wp2_with (first
        | ((with_reducible show wpList _ _ _ (⟨some 43, _, _, _, _, _⟩ :: _) _ _); refine wpList_loadv _ rfl 29 (.tmp 5) rfl 5 (by kernel_rfl) w.heap.size 0 Kx.cells rfl (BL.all HGx.out) rfl ?_)
        | ((with_reducible show wpList _ _ _ (⟨some 44, _, _, _, _, _⟩ :: _) _ _); refine wpList_loadv _ rfl 33 (.tmp 6) rfl 2 (by kernel_rfl) w1.heap.size 0 [.string (strB s), .int .i64 (i : Int)] rfl (BL.all HPx.out) rfl ?_)
        | (go_at_call 58; refine (rnonce_any Kx s i q wx HK.out HS32.out HI16.out hq1).mono ?_; rintro e w6 ⟨rfl, b1⟩; have HX6 := Lib.hid b1; have HW6 := Lib.hid (below_thenB hx.out hx.out.size b1); have HP6 := Lib.hid (HPx.out.kept b1); have HD6 := Lib.hid (HDx.out.kept b1); have HR6 := Lib.hid (hrw.out.kept b1); clear b1))
      have HTK : Hid ((tokL Kx s i d f (k + 1)).flatMap Tk.cells = (tokL Kx s i d f k).flatMap Tk.cells ++ [.string (strB s), .int .i64 (i : Int), .string (strB (nonceL Kx s i q)), .string (strB (tagL (nonceL Kx s i q) d))]) := Lib.hid (by rw [tokL_take, hq.out]; rfl)
      have HNl : Hid ((nonceL Kx s i q).length ≤ 64) := Lib.hid (by rw [nonceL_length]; decide)
      obtain ⟨N, hN⟩ : ∃ N, N = nonceL Kx s i q := ⟨_, rfl⟩
      rw [← hN] at HTK HNl ⊢
      clear hN
      obtain ⟨T, hT⟩ : ∃ T, T = tagL N d := ⟨_, rfl⟩
      rw [← hT] at HTK
      have HTT := Lib.hid hT
      clear hT
      refine Text.wp_region_text (fun w' => Below w6.heap.size w6 w') [(0, 4), (2, 4), (3, 4), (4, 4), (1, 0), (5, 2), (6, 4), (7, 2), (8, 3), (9, 4)] (by kernel_rfl) (by kernel_rfl) (fun _ _ _ _ _ h => h) ((Below.refl _ _).drew) ?_
      iterate 4 (refine Text.purek rfl rfl (fun K hK => ⟨_, fun w' => by go_simp <;> rfl, ?_⟩); go_simp; refine hK _ ?_; clear hK K)
      refine Text.heldk rfl rfl (fun K hK => ?_)
      refine ⟨_, fun w' hw' => exec_loadv 33 (.tmp 6) rfl 2 (by kernel_rfl) w1.heap.size 0 [.string (strB s), .int .i64 (i : Int)] rfl (BL.all (HP6.out.kept hw')) rfl, ?_⟩
      go_simp
      refine hK _ ?_
      clear hK K
      refine Text.eff rfl rfl (fun K hK => ?_)
      go_simp
      refine (rtag_any A n cp N d w6.drew HD6.out.drew HNl.out HN1.out).mono ?_
      rintro e w7 ⟨rfl, b1⟩
      rw [← HTT.out]
      have HX7 : Hid (Below w6.heap.size w6 w7) := Lib.hid ((Below.refl _ _).drew.trans (b1.mono (Nat.le_refl _)))
      refine hK _ _ HX7.out ?_
      clear hK K b1
      (refine Text.purek rfl rfl (fun K hK => ⟨_, fun w' => by go_simp <;> rfl, ?_⟩); go_simp; refine hK _ ?_; clear hK K)
      refine Text.eff rfl rfl (fun K hK => ?_)
      refine wp_bslice 24 37 1 _ rfl #[(0, .agg #[.string (strB s), .int .i64 (i : Int), .string (strB N), .string (strB T)])] (by rw [List.map_toArray]; rfl) [.string (strB s), .int .i64 (i : Int), .string (strB N), .string (strB T)] (bslTok s N T (i : Int) _) ?_
      intro w8 a1 a2 a3
      have HG8 := Lib.hid a1
      have HX8 : Hid (Below w6.heap.size w6 w8) := Lib.hid (below_then HX7.out a2)
      have HR8 := Lib.hid (HR6.out.kept HX8.out)
      refine hK _ _ HX8.out ?_
      clear hK K a1 a2 a3
      refine Text.last rfl rfl (fun K hK => ?_)
      obtain ⟨iS, i1, i2, i3, i4⟩ := info_some infoTk4
      refine wp_appRW _ (.tmp 47) (.tmp 54) 24 37 4 iS _ rfl Tryd.underlying24 i1 i2 i3 rfl v k _ rfl HR8.out w7.heap.size _ rfl HG8.out rfl (by intro u hu; simp only [List.mem_cons, List.not_mem_nil, or_false] at hu; rcases hu with rfl | rfl | rfl | rfl <;> rfl) (by rw [i4]; omega) (by omega) ?_
      intro v9 w9 ap
      have HR9 : Hid (RW w9 37 4 v9 (k + 1) ((tokL Kx s i d f (k + 1)).flatMap Tk.cells)) := Lib.hid (by rw [HTK.out]; exact ap.row)
      have HO9 : Hid (∀ b, v9.ownBlock = some b → w4.heap.size ≤ b) := Lib.hid (fun b hb => (ap.own b hb).elim (hown.out b) (fun h => Nat.le_trans (by have := HW6.out.size; have := HX8.out.size; omega) h))
      have HX9 : Hid (Below w4.heap.size w4 w9) := Lib.hid (((Kp.of_below (S := fun _ => False) (below_thenB HW6.out HW6.out.size HX8.out)).after ap.kp (fun j hj hS => by have := hown.out j hS; omega)).below (Nat.le_refl _) (fun _ h => h.elim))
      refine hK _ _ ?_
      clear hK K ap i1 i2 i3 i4
      (refine Text.purek rfl rfl (fun K hK => ⟨_, fun w' => by go_simp <;> rfl, ?_⟩); go_simp; refine hK _ ?_; clear hK K)
      refine Text.done ?_
      go_wp2_with fail
      go_roundw
      case rel => exact ⟨k + 1, q + 1, v9, by omega, by omega, by go_num, rfl, Lib.hid (by rw [hq.out]; omega), HR9, HO9, HX9⟩
      case measure => simp [intOf]; have := hq.out; omega
    · obtain rfl : k = c := by omega
      have hqlt : ¬ (q : Int) < (f : Int) + (k : Int) := by have := hq.out; omega
      go_wp2_with fail
      go_ret2
      exact ⟨v, k, rfl, (by simp [tokL]), hrw.out, below_thenB HB4.out HB4.out.size hx.out⟩
end Go.Proofs.YtgjgofjabdjclaaDoor
