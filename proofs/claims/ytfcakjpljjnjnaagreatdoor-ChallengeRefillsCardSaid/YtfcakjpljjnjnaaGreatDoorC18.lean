/- Several texts in one: Rtg, Rnu, Rno, Rnc, Pu5. -/
import Derived.Test.YtfcakjpljjnjnaaGreatDoorC13
import Derived.Test.YtfcakjpljjnjnaaGreatDoorC8
import Derived.Test.YtfcakjpljjnjnaaGreatDoorC15
import Derived.Test.YtfcakjpljjnjnaaGreatDoorC17
import Derived.Test.YtfcakjpljjnjnaaGreatDoorC9
import Derived.Laws.IdiomRangeMap
/- Contracts of ref05.pad and ref05.Tag for keys of at most 64 bytes. -/
namespace Go.Proofs.YtfcakjpljjnjnaaGreatDoor
open Go Go.RowKit Gf Sha

attribute [local go_sem] Gf.xor_bits
theorem xor0_b (x : UInt8) : bits .xor .u8 0 (bv x) = bv x := by
 have h := Gf.xor_bits 0 x
 have e : bv 0 = 0 := rfl
 rw [e] at h
 rw [h, UInt8.zero_xor]
attribute [local go_sem] xor0_b
theorem keyp_low {k : List UInt8} {j : Nat} (h : j < k.length) : gB (keyp k) j = gB k j := by
 rw [gB, gB, List.getD_eq_getElem?_getD, List.getD_eq_getElem?_getD, keyp, List.getElem?_append_left h]
theorem keyp_high {k : List UInt8} {j : Nat} (h : k.length ≤ j) : gB (keyp k) j = 0 := by
 rw [gB, List.getD_eq_getElem?_getD, keyp, List.getElem?_append_right h, List.getElem?_replicate]
 split <;> rfl
theorem xr_snoc (x : UInt8) (f : List UInt8) (k : Nat) (h : k < f.length) : (xr x f).take k ++ [gB f k ^^^ x] = (xr x f).take (k + 1) := by
 rw [List.take_succ_eq_append_getElem (by rw [xr_length]; exact h), gB_eq h]
 simp [xr]

set_option maxRecDepth 100000 in
set_option maxHeartbeats 1000000 in
theorem rpad5_any (key : List UInt8) (x : UInt8) (v : Value) (hv : v = B x) (w : World) (hk : key.length ≤ 64) :
  Calls Tryz.prog 89 #[.string (strB key), v] w fun e w' => (∃ g c', e = .returned (.slice (some ⟨g, 0, none⟩) 64 c') ∧ w'.ownsRow w.heap.size 5 1 (.slice (some ⟨g, 0, none⟩) 64 c') 64 ((xr x (keyp key)).map B)) ∧ Below w.heap.size w w' := by
 subst hv
 have HK := Lib.hid hk
 have HKL : Hid ((keyp key).length = 64) := Lib.hid (keyp_length key hk)
 have HO0 : Hid ((w.alloc (.cells #[] 5)).ownsRow w.heap.size 5 1 (.slice (some ⟨w.heap.size, 0, none⟩) 0 0) 0 (((xr x (keyp key)).take 0).map B)) := Lib.hid (BL.own (BL.new w 5 []) (Nat.le_refl _) rfl (by decide))
 have HX0 : Hid (Below w.heap.size w (w.alloc (.cells #[] 5))) := Lib.hid ((Below.refl _ _).alloc (Nat.le_refl _) _)
 clear hk
 go_enter Tryz.func89, Tryz.ntmps89
 go_wp2_with fail
 go_loopw [5, 6] (fun v i wr => ∃ (k g4 c4 : Nat), k ≤ 64 ∧ i = .int .i64 (k : Int) ∧ v = .slice (some ⟨g4, 0, none⟩) k c4 ∧ Hid (wr.ownsRow w.heap.size 5 1 (.slice (some ⟨g4, 0, none⟩) k c4) k (((xr x (keyp key)).take k).map B)) ∧ Hid (Below w.heap.size w wr)) (fun _ i _ => 64 - (intOf i).toNat)
 case atStart => exact ⟨0, _, _, by omega, rfl, rfl, HO0, HX0⟩
 case round =>
  obtain ⟨k, g4, c4, hk, rfl, rfl, ho, hb⟩ := hrel
  obtain ⟨wx, hwx⟩ : ∃ x, x = wr := ⟨_, rfl⟩
  rw [← hwx] at ho hb ⊢
  clear hwx
  by_cases hlt : k < 64
  ·
   obtain ⟨y, hy⟩ : ∃ y, y = gB (keyp key) k ^^^ x := ⟨_, rfl⟩
   have HBB := Lib.hid (hb.out.alloc hb.out.size (.cells #[B y] 5))
   have HOO := Lib.hid (ho.out.kept (World.grownBy_alloc wx (.cells #[B y] 5) none) (by simp [Value.ownBlock]))
   have HBK : Hid (Blk (wx.alloc (.cells #[B y] 5)) wx.heap.size 5 #[B y]) := Lib.hid (Blk.new wx 5 #[B y])
   have HYS : Hid ((xr x (keyp key)).take k ++ [y] = (xr x (keyp key)).take (k + 1)) := Lib.hid (by rw [hy]; exact xr_snoc x _ k (by rw [HKL.out]; exact hlt))
   by_cases hkl : k < key.length
   ·
    have hy2 : gB key k ^^^ x = y := by rw [hy, keyp_low hkl]
    have f1 : k < (strB key).size := by rw [strB_size]; exact hkl
    clear hy
    go_wp2_with (first
     | ((with_reducible show OpW 19); refine wpList_idxS _ rfl (.tmp 17) (.tmp 18) 9 rfl Tryz.underlying9 key k _ rfl rfl rfl hkl ?_)
     | ((with_reducible show OpW 25); refine wpList_app1 _ rfl (.tmp 20) (.tmp 24) 39 5 (.int .u8 0) 1 Tryz.underlying39 infoU8 rfl rfl w.heap.size _ k _ rfl HOO.out wx.heap.size 1 5 (B y) rfl HBK.out rfl (by omega) (by omega) HBB.out.size ?_; intro v6 w6 hp))
    obtain ⟨g6, c6, rfl⟩ := hp.form (by omega)
    have HO6 : Hid (w6.ownsRow w.heap.size 5 1 (.slice (some ⟨g6, 0, none⟩) (k + 1) c6) (k + 1) (((xr x (keyp key)).take (k + 1)).map B)) := Lib.hid (by have := hp.own; rw [← HYS.out, List.map_append]; exact this)
    have HB6 := Lib.hid (hp.below HOO.out HBB.out (Nat.le_refl _) HBB.out.size)
    clear hp
    go_roundw
    case rel => exact ⟨k + 1, _, _, by omega, by go_num, rfl, HO6, HB6⟩
    case measure => simp [intOf]; omega
   ·
    have hy2 : x = y := by rw [hy, keyp_high (by omega), UInt8.zero_xor]
    have f1 : ¬ k < (strB key).size := by rw [strB_size]; exact hkl
    clear hy
    subst hy2
    go_wp2_with ((with_reducible show OpW 25); refine wpList_app1 _ rfl (.tmp 20) (.tmp 24) 39 5 (.int .u8 0) 1 Tryz.underlying39 infoU8 rfl rfl w.heap.size _ k _ rfl HOO.out wx.heap.size 1 5 (B x) rfl HBK.out rfl (by omega) (by omega) HBB.out.size ?_; intro v6 w6 hp)
    obtain ⟨g6, c6, rfl⟩ := hp.form (by omega)
    have HO6 : Hid (w6.ownsRow w.heap.size 5 1 (.slice (some ⟨g6, 0, none⟩) (k + 1) c6) (k + 1) (((xr x (keyp key)).take (k + 1)).map B)) := Lib.hid (by have := hp.own; rw [← HYS.out, List.map_append]; exact this)
    have HB6 := Lib.hid (hp.below HOO.out HBB.out (Nat.le_refl _) HBB.out.size)
    clear hp
    go_roundw
    case rel => exact ⟨k + 1, _, _, by omega, by go_num, rfl, HO6, HB6⟩
    case measure => simp [intOf]; omega
  ·
   obtain rfl : k = 64 := by omega
   go_wp2_with fail
   go_ret
   exact ⟨⟨g4, c4, rfl, by have := ho.out; rw [List.take_of_length_le (by rw [xr_length, HKL.out]; exact Nat.le_refl _)] at this; exact this⟩, hb.out⟩

theorem m54 : Value.int .u8 54 = B 0x36 := rfl
theorem m92 : Value.int .u8 92 = B 0x5c := rfl
set_option maxRecDepth 100000 in
set_option maxHeartbeats 1000000 in
theorem rtag_any (A : Option Addr) (n c : Nat) (key l : List UInt8) (w : World) (h : BS w A n c l) (hk : key.length ≤ 64) (hN : n ≤ 1000000) :
  Calls Tryz.prog 56 #[.string (strB key), .slice A n c] w fun e w' => e = .returned (.string (strB (tagL key l))) ∧ Below w.heap.size w w' := by
 have HK := Lib.hid hk
 have H := Lib.hid h
 have f1 : ¬ 64 < (strB key).size := by rw [strB_size]; omega
 have HIl : Hid ((xr 0x36 (keyp key)).length = 64) := Lib.hid (by rw [xr_length, keyp_length key hk])
 have HOl : Hid ((xr 0x5c (keyp key)).length = 64) := Lib.hid (by rw [xr_length, keyp_length key hk])
 have HTL : Hid (tagL key l = sha (xr 0x5c (keyp key) ++ sha (xr 0x36 (keyp key) ++ l))) := Lib.hid rfl
 obtain ⟨R, hR⟩ : ∃ R, R = tagL key l := ⟨_, rfl⟩
 rw [← hR] at HTL ⊢
 clear h hk hR
 go_enter Tryz.func56, Tryz.ntmps56
 go_wp2_with (first
  | (go_at_call 89; (with_reducible show Calls _ _ _ w _); refine (rpad5_any key 0x36 _ m54 w HK.out).mono ?_; rintro e w1 ⟨⟨g1, c1, rfl, o⟩, b⟩; have HO1 := Lib.hid o; have HB1 := Lib.hid b; clear o b)
  | ((with_reducible show OpW 15); refine wpList_appB _ rfl (.tmp 13) (.tmp 14) rfl w.heap.size _ 64 _ rfl HO1.out A n c l rfl (H.out.kept HB1.out) (by omega) HB1.out.size ?_; intro v2 w2 hp; have HO2 := Lib.hid hp.own; have HB2 := Lib.hid (hp.below HO1.out HB1.out (Nat.le_refl _) HB1.out.size); obtain ⟨A2, c2, rfl, b2⟩ := BS.of_own hp.own (by unfold lim; omega); have HS2 := Lib.hid b2; clear hp b2)
  | (go_at_call 88; (with_reducible show Calls _ _ _ w2 _); refine (rsum_any A2 (64 + n) c2 _ w2 HS2.out (by omega)).mono ?_; rintro e w3 ⟨rfl, b⟩; have HB3 := Lib.hid (below_then HB2.out b); clear b))
 obtain ⟨S, hS⟩ : ∃ S, S = sha (xr 0x36 (keyp key) ++ l) := ⟨_, rfl⟩
 have HSl : Hid (S.length = 32) := Lib.hid (by rw [hS]; exact sha_length _)
 rw [← hS] at HTL ⊢
 clear hS HO2 HS2 HO1 HB1 HB2
 go_wp2_with (first
  | (go_at_call 89; (with_reducible show Calls _ _ _ w3 _); refine (rpad5_any key 0x5c _ m92 w3 HK.out).mono ?_; rintro e w4 ⟨⟨g4, c4, rfl, o⟩, b⟩; have HO4 := Lib.hid o; have HB4 := Lib.hid b; clear o b)
  | ((with_reducible show OpW 20); refine wpList_convB _ rfl (.tmp 19) rfl S rfl ?_; intro w5 cap hc; have HC5 := Lib.hid hc; have HO5 := Lib.hid (own_below HO4.out hc.2.2.1); have HB5 := Lib.hid (below_thenB HB4.out HB4.out.size hc.2.2.1); clear hc)
  | ((with_reducible show OpW 21); refine wpList_appB _ rfl (.tmp 18) (.tmp 20) rfl w3.heap.size _ 64 _ rfl HO5.out _ S.length cap S rfl (HC5.out.bs (by rw [HSl.out]; decide)) (by rw [HSl.out]; decide) HB5.out.size ?_; intro v6 w6 hp; have HB6 := Lib.hid (hp.below HO5.out HB5.out (Nat.le_refl _) HB5.out.size); obtain ⟨A6, c6, rfl, b6⟩ := BS.of_own hp.own (by rw [HSl.out]; decide); have HS6 := Lib.hid b6; clear hp b6)
  | (go_at_call 88; refine (rsum_any A6 (64 + S.length) c6 _ w6 HS6.out (by rw [HSl.out]; decide)).mono ?_; rintro e w7 ⟨rfl, b⟩; have HB7 := Lib.hid (below_thenB HB6.out HB6.out.size b); clear b))
 go_ret
 exact ⟨by rw [HTL.out]; rfl, below_then HB3.out HB7.out⟩
end Go.Proofs.YtfcakjpljjnjnaaGreatDoor
/- Contract of ref01.Number. -/
namespace Go.Proofs.YtfcakjpljjnjnaaGreatDoor
open Go Go.RowKit Gf Sha

theorem low_n : ∀ n, n < 256 → UInt8.ofNat n ||| 128 = UInt8.ofNat (n % 128) + 128 := by decide +kernel
theorem low_b (a : UInt8) : (a ||| 128) = UInt8.ofNat (a.toNat % 128) + 128 := by
 have h := low_n a.toNat a.toNat_lt
 rwa [UInt8.ofNat_toNat] at h
theorem low_of (n : Nat) : UInt8.ofNat (n % 128) + 128 = UInt8.ofNat n ||| 128 := by
 rw [low_b]
 congr 1
 apply UInt8.toNat_inj.1
 rw [UInt8.toNat_ofNat', UInt8.toNat_ofNat', UInt8.toNat_ofNat']
 omega
theorem add128 (b : UInt8) : IntKind.u8.wrap (bv b + 128) = bv (b + 128) := by
 unfold bv
 show ((b.toNat : Int) + 128) % 256 = _
 rw [UInt8.toNat_add]
 show _ = (((b.toNat + 128) % 256 : Nat) : Int)
 omega
attribute [local go_sem] add128

set_option maxRecDepth 100000 in
set_option maxHeartbeats 1000000 in
theorem rnum_any (N : Nat) (w : World) (hN : N ≤ 1099511627776) :
  Calls Tryz.prog 87 #[.int .u64 (N : Int)] w fun e w' => (∃ g m c', e = .returned (.slice (some ⟨g, 0, none⟩) m c') ∧ m = (uv N).length ∧ w'.ownsRow w.heap.size 5 1 (.slice (some ⟨g, 0, none⟩) m c') m ((uv N).map B)) ∧ Below w.heap.size w w' := by
 have HO0 : Hid ((w.alloc (.cells #[] 5)).ownsRow w.heap.size 5 1 (.slice (some ⟨w.heap.size, 0, none⟩) 0 0) 0 (([] : List UInt8).map B)) := Lib.hid (BL.own (BL.new w 5 []) (Nat.le_refl _) rfl (by decide))
 have HX0 : Hid (Below w.heap.size w (w.alloc (.cells #[] 5))) := Lib.hid ((Below.refl _ _).alloc (Nat.le_refl _) _)
 go_enter Tryz.func87, Tryz.ntmps87
 go_wp2_with fail
 go_loopw [0, 3] (fun i v wr => ∃ (X f m g4 c4 : Nat) (pre : List UInt8), X ≤ 1099511627776 ∧ m ≤ 20 ∧ i = .int .u64 (X : Int) ∧ v = .slice (some ⟨g4, 0, none⟩) m c4 ∧ Hid (X < 128 ^ (f + 1)) ∧ Hid (m + f = 10) ∧ Hid (pre ++ uvf f X = uv N) ∧ Hid (wr.ownsRow w.heap.size 5 1 (.slice (some ⟨g4, 0, none⟩) m c4) m (pre.map B)) ∧ Hid (Below w.heap.size w wr)) (fun i _ _ => (intOf i).toNat)
 case atStart => exact ⟨N, 10, 0, _, _, [], hN, by omega, rfl, rfl, Lib.hid (Nat.lt_of_le_of_lt hN (by decide)), Lib.hid rfl, Lib.hid rfl, HO0, HX0⟩
 case round =>
  obtain ⟨X, f, m, g4, c4, pre, hX, hm, rfl, rfl, hf, hmf, hp, ho, hb⟩ := hrel
  obtain ⟨wx, hwx⟩ : ∃ x, x = wr := ⟨_, rfl⟩
  rw [← hwx] at ho hb ⊢
  clear hwx
  by_cases hlt : 127 < X
  ·
   obtain ⟨f, rfl⟩ : ∃ k, f = k + 1 := by
    cases f with
    | zero => exfalso; have := hf.out; simp at this; omega
    | succ k => exact ⟨k, rfl⟩
   obtain ⟨y, hy⟩ : ∃ y, y = UInt8.ofNat (X % 128) + 128 := ⟨_, rfl⟩
   have hy2 : UInt8.ofNat (X % 128) + 128 = y := hy.symm
   have HBB := Lib.hid (hb.out.alloc hb.out.size (.cells #[B y] 5))
   have HOO := Lib.hid (ho.out.kept (World.grownBy_alloc wx (.cells #[B y] 5) none) (by simp [Value.ownBlock]))
   have HBK : Hid (Blk (wx.alloc (.cells #[B y] 5)) wx.heap.size 5 #[B y]) := Lib.hid (Blk.new wx 5 #[B y])
   have HP : Hid ((pre ++ [y]) ++ uvf f (X / 128) = uv N) := Lib.hid (by
    rw [← hp.out, uvf_more f X (by omega), hy, low_of, List.append_assoc, Nat.shiftRight_eq_div_pow]; rfl)
   have HF : Hid (X / 128 < 128 ^ (f + 1)) := Lib.hid (by
    have h1 := hf.out
    rw [Nat.pow_succ] at h1
    exact Nat.div_lt_of_lt_mul (by rw [Nat.mul_comm]; exact h1))
   have h0 : (0 : Int) ≤ (X : Int) := by omega
   have hm9 : m ≤ 9 := by have := hmf.out; omega
   clear hy
   go_wp2_with (first
    | ((with_reducible show OpW 9); refine wpList_remN _ rfl (.tmp 8) _ 86 86 rfl X 128 _ 128 rfl rfl rfl rfl (by decide) ?_)
    | ((with_reducible show OpW 10); refine wpList_u8N _ rfl (.tmp 9) 86 5 rfl _ .u64 Tryz.underlying86 Tryz.underlying5 _ _ rfl rfl ?_)
    | ((with_reducible show OpW 13); refine wpList_app1 _ rfl (.tmp 7) (.tmp 12) 39 5 (.int .u8 0) 1 Tryz.underlying39 infoU8 rfl rfl w.heap.size _ m _ rfl HOO.out wx.heap.size 1 5 (B y) rfl HBK.out rfl (by omega) (by omega) HBB.out.size ?_; intro v6 w6 hpp))
   obtain ⟨g6, c6, rfl⟩ := hpp.form (by omega)
   have HO6 : Hid (w6.ownsRow w.heap.size 5 1 (.slice (some ⟨g6, 0, none⟩) (m + 1) c6) (m + 1) ((pre ++ [y]).map B)) := Lib.hid (by have := hpp.own; rw [List.map_append]; exact this)
   have HB6 := Lib.hid (hpp.below HOO.out HBB.out (Nat.le_refl _) HBB.out.size)
   clear hpp
   go_roundw
   case rel => exact ⟨X / 128, f, m + 1, _, _, pre ++ [y], by omega, by omega, by go_num, rfl, HF, Lib.hid (by have := hmf.out; omega), HP, HO6, HB6⟩
   case measure => simp [intOf]; omega
  ·
   obtain ⟨y, hy⟩ : ∃ y, y = UInt8.ofNat X := ⟨_, rfl⟩
   have hy2 : UInt8.ofNat X = y := hy.symm
   have HBB := Lib.hid (hb.out.alloc hb.out.size (.cells #[B y] 5))
   have HOO := Lib.hid (ho.out.kept (World.grownBy_alloc wx (.cells #[B y] 5) none) (by simp [Value.ownBlock]))
   have HBK : Hid (Blk (wx.alloc (.cells #[B y] 5)) wx.heap.size 5 #[B y]) := Lib.hid (Blk.new wx 5 #[B y])
   have HP : Hid (pre ++ [y] = uv N) := Lib.hid (by rw [← hp.out, uvf_small f X (by omega), hy])
   clear hy
   go_wp2_with (first
    | ((with_reducible show OpW 18); refine wpList_u8N _ rfl (.tmp 17) 86 5 rfl _ .u64 Tryz.underlying86 Tryz.underlying5 _ _ rfl rfl ?_)
    | ((with_reducible show OpW 20); refine wpList_app1 _ rfl (.tmp 16) (.tmp 19) 39 5 (.int .u8 0) 1 Tryz.underlying39 infoU8 rfl rfl w.heap.size _ m _ rfl HOO.out wx.heap.size 1 5 (B y) rfl HBK.out rfl (by omega) (by omega) HBB.out.size ?_; intro v6 w6 hpp))
   obtain ⟨g6, c6, rfl⟩ := hpp.form (by omega)
   have HO6 : Hid (w6.ownsRow w.heap.size 5 1 (.slice (some ⟨g6, 0, none⟩) (m + 1) c6) (m + 1) ((uv N).map B)) := Lib.hid (by have := hpp.own; rw [← HP.out, List.map_append]; exact this)
   have HB6 := Lib.hid (hpp.below HOO.out HBB.out (Nat.le_refl _) HBB.out.size)
   clear hpp
   go_ret
   exact ⟨⟨g6, m + 1, c6, rfl, by have := HO6.out.1; simpa using this.symm, HO6.out⟩, HB6.out⟩
end Go.Proofs.YtfcakjpljjnjnaaGreatDoor
/- Contracts of ref44.nonce, ref44.Nonce, ref44.Answer. -/
namespace Go.Proofs.YtfcakjpljjnjnaaGreatDoor
open Go Go.RowKit Gf Sha

theorem BL.farR {w w' : World} {g B : Nat} {t : TypeId} {l : List Value} (h : BL w g t l) (hb : Below B w w') (hg : g < B) : BL w' g t l := (hb.block _ hg).trans h

set_option maxRecDepth 100000 in
set_option maxHeartbeats 2000000 in
theorem rnonce_any (Kx : Ky) (s : List UInt8) (i n : Nat) (w : World) (hK : okK Kx = true) (hs : s.length = 32) (hi : i < 16) (hn : n ≤ 1099511627776) :
  Calls Tryz.prog 55 #[Kx.val, .agg #[.string (strB s), .int .i64 (i : Int)], .int .i64 (n : Int)] w fun e w' => e = .returned (.string (strB (nonceL Kx s i n))) ∧ Below w.heap.size w w' := by
 have HK := Lib.hid hK
 have HS := Lib.hid hs
 have HI := Lib.hid hi
 have HN := Lib.hid hn
 have hwn := wrap_u64 n (by omega)
 have hwi := wrap_u64 i (by omega)
 have HNL : Hid (nonceL Kx s i n = tagL Kx.tk ((([110, 111, 110, 99, 101] ++ s) ++ uv i) ++ uv n)) := Lib.hid (by simp [nonceL])
 obtain ⟨R, hR⟩ : ∃ R, R = nonceL Kx s i n := ⟨_, rfl⟩
 rw [← hR] at HNL ⊢
 clear hK hs hi hn hR
 go_enter Tryz.func55, Tryz.ntmps55
 go_wp2_with (first
  | ((with_reducible show OpW 3); refine wpList_box _ rfl 23 (.tmp 0) rfl Kx.cells rfl ?_; intro w1 a1 a2 a3; have HG1 := Lib.hid a1; have HB1 := Lib.hid a2; have HZ1 := Lib.hid a3; clear a1 a2 a3)
  | ((with_reducible show OpW 4); refine wpList_box _ rfl 31 (.tmp 1) rfl [.string (strB s), .int .i64 (i : Int)] rfl ?_; intro w2 a1 a2 a3; have HP2 := Lib.hid a1; have HB2 := Lib.hid (below_then HB1.out (a2.mono (Nat.le_refl _))); have HG2 := Lib.hid (HG1.out.kept a2); clear a1 a2 a3)
  | ((with_reducible show OpW 8); refine wpList_bslice _ rfl 39 5 5 _ rfl #[(0, B 110), (1, B 111), (2, B 110), (3, B 99), (4, B 101)] (by rw [List.map_toArray]; rfl) (([110, 111, 110, 99, 101] : List UInt8).map B) (bsl5 110 111 110 99 101 _) ?_; intro w3 a1 a2 a3; have HC3 := Lib.hid a1; have HB3 := Lib.hid (below_then HB2.out a2); have HG3 := Lib.hid (HG2.out.kept a2); have HP3 := Lib.hid (HP2.out.kept a2); clear a1 a2 a3)
  | ((with_reducible show OpW 9); refine wpList_same _ rfl (.tmp 8) rfl w2.heap.size 5 5 [110, 111, 110, 99, 101] rfl HC3.out rfl (by decide) rfl ?_; intro w4 a1 a2 a3; have HC4 := Lib.hid a1; have HB4 : Hid (Below w.heap.size w w4) := Lib.hid (((Kp.of_below (S := fun _ => False) HB3.out).after a2 (fun i hi e => by have := HB2.out.size; omega)).below (Nat.le_refl _) (fun _ h => h.elim)); have HG4 := Lib.hid (HG3.out.kp a2 (by have := HG2.out.lt; show ¬ _ = _; omega)); have HP4 := Lib.hid (HP3.out.kp a2 (by have := HP2.out.lt; show ¬ _ = _; omega)); have q1 := HP4.out.get (j := 0) rfl; clear a1 a2 a3)
  | ((with_reducible show OpW 12); refine wpList_growS _ rfl (.tmp 9) (.tmp 11) rfl _ 5 5 [110, 111, 110, 99, 101] s rfl HC4.out rfl (by rw [HS.out]; decide) (by rw [HS.out]; decide) ?_; intro v5 w5 a1; have HO5 := Lib.hid a1.own; have HB5 := Lib.hid (below_thenB HB4.out HB4.out.size a1.below); have HX5 := Lib.hid a1.below; have HG5 := Lib.hid (HG4.out.kept a1.below); have HP5 := Lib.hid (HP4.out.kept a1.below); have q2 := HP5.out.get (j := 1) rfl; clear q1 a1)
  | (go_at_call 87; refine (rnum_any i w5 (by have := HI.out; omega)).mono ?_; rintro e w6 ⟨⟨g6, m6, c6, rfl, hm6, o6⟩, b6⟩; have HM6 := Lib.hid hm6; have HU6 := Lib.hid (uv_length i); obtain ⟨A6, c6', e6, s6⟩ := BS.of_own o6 (by have := HM6.out; have := HU6.out; unfold lim; omega); cases e6; have HS6 := Lib.hid s6; have HO6 := Lib.hid (own_below HO5.out b6); have HB6 := Lib.hid (below_thenB HB5.out HB5.out.size b6); have HX6 := Lib.hid (below_thenB HX5.out HX5.out.size b6); have HG6 := Lib.hid (HG5.out.kept b6); clear hm6 o6 b6 s6 q2)
  | ((with_reducible show OpW 18); refine wpList_appB _ rfl (.tmp 13) (.tmp 17) rfl w4.heap.size _ (5 + s.length) _ rfl HO6.out _ m6 c6 (uv i) rfl HS6.out (by have := HM6.out; have := HU6.out; rw [HS.out]; omega) HX6.out.size ?_; intro v7 w7 hp; have HO7 := Lib.hid hp.own; have HX7 := Lib.hid (hp.below HO6.out HX6.out (Nat.le_refl _) HX6.out.size); have HB7 := Lib.hid (hp.below HO6.out HB6.out HB4.out.size (by have := HB6.out.size; omega)); have HG7 := Lib.hid (HG6.out.farR (hp.below HO6.out (Below.refl w4.heap.size _) (Nat.le_refl _) HX6.out.size) HG4.out.lt); clear hp))
 have HQ : Hid (∀ w', Below w7.heap.size w7 w' → w'.cell? ⟨w.heap.size, 4, none⟩ = some (.string (strB Kx.tk))) := Lib.hid (fun w' hb => (HG7.out.kept hb).get (j := 4) rfl)
 have HWL : Hid (w.heap.size < w4.heap.size) := Lib.hid HG4.out.lt
 clear HG1 HG2 HG3 HG4 HG5 HG6 HP2 HP3 HP4 HP5 HB1 HB2 HB3 HB5 HB6 HX5 HX6 HO5 HO6 HC3 HC4 HS6
 refine Text.wp_region_text (fun w' => w'.cell? ⟨w.heap.size, 4, none⟩ = some (.string (strB Kx.tk))) [(0, 4), (2, 4), (3, 4), (4, 4), (1, 0), (5, 2), (6, 2), (7, 2), (8, 4)] (by kernel_rfl) (by kernel_rfl) (fun _ _ _ _ _ h => h) (HQ.out _ (Below.refl _ _).drew) ?_
 iterate 4 (refine Text.purek rfl rfl (fun K hK => ⟨_, fun w' => by go_simp <;> rfl, ?_⟩); go_simp; refine hK _ ?_; clear hK K)
 (refine Text.heldk rfl rfl (fun K hK => ⟨_, fun w' hw' => by go_simp <;> rfl, ?_⟩); go_simp; refine hK _ ?_; clear hK K)
 refine Text.eff rfl rfl (fun K hK => ?_)
 go_simp
 refine (rnum_any n w7.drew HN.out).mono ?_
 rintro e w8 ⟨⟨g8, m8, c8, rfl, hm8, o8⟩, b8⟩
 have HM8 := Lib.hid hm8
 have HU8 := Lib.hid (uv_length n)
 obtain ⟨A8, c8', e8, s8⟩ := BS.of_own o8 (by have := HM8.out; have := HU8.out; unfold lim; omega)
 cases e8
 have HS8 := Lib.hid s8
 have HX8 : Hid (Below w7.heap.size w7 w8) := Lib.hid ((Below.refl _ _).drew.trans (b8.mono (Nat.le_refl _)))
 have HO8 := Lib.hid (own_below HO7.out HX8.out)
 refine hK _ _ (HQ.out _ HX8.out) ?_
 clear hK K hm8 o8 b8 s8
 refine Text.eff rfl rfl (fun K hK => ?_)
 refine wp_appB _ (.tmp 21) (.tmp 24) rfl w4.heap.size _ (5 + s.length + m6) _ rfl HO8.out _ m8 c8 (uv n) rfl HS8.out (by have := HM8.out; have := HU8.out; have := HM6.out; have := HU6.out; rw [HS.out]; omega) (by have := HX7.out.size; have := HX8.out.size; omega) ?_
 intro v9 w9 hp
 have HX9 : Hid (Below w4.heap.size w4 w9) := Lib.hid (hp.below HO8.out (below_thenB HX7.out HX7.out.size HX8.out) (Nat.le_refl _) (by have := HX7.out.size; have := HX8.out.size; omega))
 have HQ9 : Hid (w9.cell? ⟨w.heap.size, 4, none⟩ = some (.string (strB Kx.tk))) := Lib.hid (by
  have h1 := hp.below HO8.out (Below.refl w4.heap.size _) (Nat.le_refl _) (by have := HX7.out.size; have := HX8.out.size; omega)
  exact ((HG7.out.kept HX8.out).farR h1 HWL.out).get (j := 4) rfl)
 obtain ⟨A9, c9, rfl, s9⟩ := BS.of_own hp.own (by have := HM8.out; have := HU8.out; have := HM6.out; have := HU6.out; rw [HS.out]; unfold lim; omega)
 have HS9 := Lib.hid s9
 refine hK _ _ HQ9.out ?_
 clear hK K hp s9
 refine Text.eff rfl rfl (fun K hK => ?_)
 go_simp
 refine (rtag_any A9 (5 + s.length + m6 + m8) c9 Kx.tk _ w9 HS9.out (by rw [okK_tk HK.out]; decide) (by have := HM8.out; have := HU8.out; have := HM6.out; have := HU6.out; rw [HS.out]; omega)).mono ?_
 rintro e w10 ⟨rfl, b10⟩
 rw [← HNL.out]
 have HQ10 := Lib.hid (cell_kept b10 HQ9.out)
 have HX10 := Lib.hid (below_thenB HX9.out HX9.out.size b10)
 refine hK _ _ HQ10.out ?_
 clear hK K b10
 (refine Text.purek rfl rfl (fun K hK => ⟨_, fun w' => by go_simp <;> rfl, ?_⟩); go_simp; refine hK _ ?_; clear hK K)
 refine Text.done ?_
 go_wp2_with fail
 go_ret
 exact ⟨rfl, below_thenB HB4.out HB4.out.size HX10.out⟩
end Go.Proofs.YtfcakjpljjnjnaaGreatDoor
/- Contracts of the reference: Nonce, Answer, and Tokens where an argument is not valid. -/
namespace Go.Proofs.YtfcakjpljjnjnaaGreatDoor
open Go Go.RowKit Gf Sha

set_option maxRecDepth 100000 in
set_option maxHeartbeats 4000000 in
theorem rtokens_not (Kx : Ky) (s : List UInt8) (i : Int) (A : Option Addr) (m cp : Nat) (f c : Int) (w : World) (h : (okK Kx && (idB s i && (dataB m && rangeB f c))) = false) :
  Calls Tryz.prog 29 #[Kx.val, .agg #[.string (strB s), .int .i64 i], .slice A m cp, .int .i64 f, .int .i64 c] w fun e w' => e = .returned (.tuple #[.slice none 0 0, .int .i64 1]) ∧ Below w.heap.size w w' := by
 by_cases hK : okK Kx = true
 ·
  have HK := Lib.hid hK
  by_cases hI : idB s i = true
  ·
   have HI := Lib.hid hI
   by_cases hD : dataB m = true
   ·
    have HD := Lib.hid hD
    rw [hK, hI, hD, Bool.true_and, Bool.true_and, Bool.true_and] at h
    have HR := Lib.hid h
    clear hK hI hD h
    go_enter Tryz.func29, Tryz.ntmps29
    go_wp2_with (first
  | ((with_reducible show OpW 5); refine wpList_box _ rfl 23 (.tmp 0) rfl Kx.cells rfl ?_; intro w1 a1 a2 a3; have HG1 := Lib.hid a1; have HB1 := Lib.hid a2; clear a1 a2 a3)
  | ((with_reducible show OpW 6); refine wpList_box _ rfl 31 (.tmp 1) rfl [.string (strB s), .int .i64 i] rfl ?_; intro w2 a1 a2 a3; have HP2 := Lib.hid a1; have HB2 := Lib.hid (below_then HB1.out (a2.mono (Nat.le_refl _))); have HG2 := Lib.hid (HG1.out.kept a2); clear a1 a2 a3)
  | ((with_reducible show OpW 15); refine wpList_loadv _ rfl 23 (.tmp 5) rfl 5 (by kernel_rfl) w.heap.size 0 Kx.cells rfl (BL.all HG2.out) rfl ?_)
  | (go_at_call 25; refine (rkeys_any Kx w2).mono ?_; rintro e w3 ⟨rfl, b1⟩; rw [HK.out]; have HB3 := Lib.hid (below_thenB HB2.out HB2.out.size b1); have HG3 := Lib.hid (HG2.out.kept b1); have HP3 := Lib.hid (HP2.out.kept b1); have q0 := HP3.out.get (j := 0) rfl; have q1 := HP3.out.get (j := 1) rfl; clear b1)
  | (go_at_call 53; refine (rpiece_any s i w3).mono ?_; rintro e w4 ⟨rfl, b1⟩; rw [HI.out]; have HB4 := Lib.hid (below_thenB HB3.out HB3.out.size b1); have HG4 := Lib.hid (HG3.out.kept b1); have HP4 := Lib.hid (HP3.out.kept b1); clear b1 q0 q1)
  | (go_at_call 54; refine (rdata_any A m cp w4).mono ?_; rintro e w' ⟨rfl, rfl⟩; rw [HD.out])
  | (go_at_call 26; refine (rnums_any f c w4).mono ?_; rintro e w' ⟨rfl, rfl⟩; rw [HR.out]))
    go_ret2
    exact ⟨rfl, HB4.out⟩
   ·
    simp only [Bool.not_eq_true] at hD
    have HD := Lib.hid hD
    clear hK hI hD h
    go_enter Tryz.func29, Tryz.ntmps29
    go_wp2_with (first
  | ((with_reducible show OpW 5); refine wpList_box _ rfl 23 (.tmp 0) rfl Kx.cells rfl ?_; intro w1 a1 a2 a3; have HG1 := Lib.hid a1; have HB1 := Lib.hid a2; clear a1 a2 a3)
  | ((with_reducible show OpW 6); refine wpList_box _ rfl 31 (.tmp 1) rfl [.string (strB s), .int .i64 i] rfl ?_; intro w2 a1 a2 a3; have HP2 := Lib.hid a1; have HB2 := Lib.hid (below_then HB1.out (a2.mono (Nat.le_refl _))); have HG2 := Lib.hid (HG1.out.kept a2); clear a1 a2 a3)
  | ((with_reducible show OpW 15); refine wpList_loadv _ rfl 23 (.tmp 5) rfl 5 (by kernel_rfl) w.heap.size 0 Kx.cells rfl (BL.all HG2.out) rfl ?_)
  | (go_at_call 25; refine (rkeys_any Kx w2).mono ?_; rintro e w3 ⟨rfl, b1⟩; rw [HK.out]; have HB3 := Lib.hid (below_thenB HB2.out HB2.out.size b1); have HG3 := Lib.hid (HG2.out.kept b1); have HP3 := Lib.hid (HP2.out.kept b1); have q0 := HP3.out.get (j := 0) rfl; have q1 := HP3.out.get (j := 1) rfl; clear b1)
  | (go_at_call 53; refine (rpiece_any s i w3).mono ?_; rintro e w4 ⟨rfl, b1⟩; rw [HI.out]; have HB4 := Lib.hid (below_thenB HB3.out HB3.out.size b1); have HG4 := Lib.hid (HG3.out.kept b1); have HP4 := Lib.hid (HP3.out.kept b1); clear b1 q0 q1)
  | (go_at_call 54; refine (rdata_any A m cp w4).mono ?_; rintro e w' ⟨rfl, rfl⟩; rw [HD.out]))
    go_ret2
    exact ⟨rfl, HB4.out⟩
  ·
   simp only [Bool.not_eq_true] at hI
   have HI := Lib.hid hI
   clear hK hI h
   go_enter Tryz.func29, Tryz.ntmps29
   go_wp2_with (first
  | ((with_reducible show OpW 5); refine wpList_box _ rfl 23 (.tmp 0) rfl Kx.cells rfl ?_; intro w1 a1 a2 a3; have HG1 := Lib.hid a1; have HB1 := Lib.hid a2; clear a1 a2 a3)
  | ((with_reducible show OpW 6); refine wpList_box _ rfl 31 (.tmp 1) rfl [.string (strB s), .int .i64 i] rfl ?_; intro w2 a1 a2 a3; have HP2 := Lib.hid a1; have HB2 := Lib.hid (below_then HB1.out (a2.mono (Nat.le_refl _))); have HG2 := Lib.hid (HG1.out.kept a2); clear a1 a2 a3)
  | ((with_reducible show OpW 15); refine wpList_loadv _ rfl 23 (.tmp 5) rfl 5 (by kernel_rfl) w.heap.size 0 Kx.cells rfl (BL.all HG2.out) rfl ?_)
  | (go_at_call 25; refine (rkeys_any Kx w2).mono ?_; rintro e w3 ⟨rfl, b1⟩; rw [HK.out]; have HB3 := Lib.hid (below_thenB HB2.out HB2.out.size b1); have HG3 := Lib.hid (HG2.out.kept b1); have HP3 := Lib.hid (HP2.out.kept b1); have q0 := HP3.out.get (j := 0) rfl; have q1 := HP3.out.get (j := 1) rfl; clear b1)
  | (go_at_call 53; refine (rpiece_any s i w3).mono ?_; rintro e w4 ⟨rfl, b1⟩; rw [HI.out]; have HB4 := Lib.hid (below_thenB HB3.out HB3.out.size b1); have HG4 := Lib.hid (HG3.out.kept b1); have HP4 := Lib.hid (HP3.out.kept b1); clear b1 q0 q1))
   go_ret2
   exact ⟨rfl, HB4.out⟩
 ·
  simp only [Bool.not_eq_true] at hK
  have HK := Lib.hid hK
  clear hK h
  go_enter Tryz.func29, Tryz.ntmps29
  go_wp2_with (first
  | ((with_reducible show OpW 5); refine wpList_box _ rfl 23 (.tmp 0) rfl Kx.cells rfl ?_; intro w1 a1 a2 a3; have HG1 := Lib.hid a1; have HB1 := Lib.hid a2; clear a1 a2 a3)
  | ((with_reducible show OpW 6); refine wpList_box _ rfl 31 (.tmp 1) rfl [.string (strB s), .int .i64 i] rfl ?_; intro w2 a1 a2 a3; have HP2 := Lib.hid a1; have HB2 := Lib.hid (below_then HB1.out (a2.mono (Nat.le_refl _))); have HG2 := Lib.hid (HG1.out.kept a2); clear a1 a2 a3)
  | ((with_reducible show OpW 15); refine wpList_loadv _ rfl 23 (.tmp 5) rfl 5 (by kernel_rfl) w.heap.size 0 Kx.cells rfl (BL.all HG2.out) rfl ?_)
  | (go_at_call 25; refine (rkeys_any Kx w2).mono ?_; rintro e w3 ⟨rfl, b1⟩; rw [HK.out]; have HB3 := Lib.hid (below_thenB HB2.out HB2.out.size b1); have HG3 := Lib.hid (HG2.out.kept b1); have HP3 := Lib.hid (HP2.out.kept b1); have q0 := HP3.out.get (j := 0) rfl; have q1 := HP3.out.get (j := 1) rfl; clear b1))
  go_ret2
  exact ⟨rfl, HB3.out⟩

end Go.Proofs.YtfcakjpljjnjnaaGreatDoor
/- A range over a map of at most one entry; Purse.size. -/
namespace Go.Proofs.YtfcakjpljjnjnaaGreatDoor
open Go Go.RowKit Gf Go.ChangeMaps

section
variable {P : Program} {w : World} {r m since last clock : Nat}
theorem next_nil (ty : TypeId) {seen : Array Nat} (hr : w.heap[r]? = some (.mapIter (some m) since seen last)) (hb : w.heap[m]? = some (.map #[] clock)) : (Instr.next (.pointer (some ⟨r, 0, none⟩)) false ty).run P w = .ok (.tuple #[.bool false]) w := by
 simp [Instr.next, getObj, Sem.run, hr, hb, Result.andThen, choose, Question.forced]
theorem next_one (ty : TypeId) {e : MapEntry} (hr : w.heap[r]? = some (.mapIter (some m) since #[] last)) (hb : w.heap[m]? = some (.map #[e] clock)) (he : e.born < since) :
  (Instr.next (.pointer (some ⟨r, 0, none⟩)) false ty).run P w = .ok (.tuple #[.bool true, e.key, e.val]) (setBlock w r (.mapIter (some m) since #[e.born] clock)) := by
 have h1 : ¬ since ≤ e.born := by omega
 simp [Instr.next, getObj, setObj, Sem.run, hr, hb, Result.andThen, choose, Question.forced, he, h1]
 rfl
theorem next_done (ty : TypeId) {e : MapEntry} (hr : w.heap[r]? = some (.mapIter (some m) since #[e.born] clock)) (hb : w.heap[m]? = some (.map #[e] clock)) (he : e.born < clock) :
  (Instr.next (.pointer (some ⟨r, 0, none⟩)) false ty).run P w = .ok (.tuple #[.bool false]) w := by
 have h1 : ¬ clock ≤ e.born := by omega
 simp [Instr.next, getObj, setObj, Sem.run, hr, hb, Result.andThen, choose, Question.forced, h1]
theorem entry_one {e : MapEntry} (hr : w.heap[r]? = some (.mapIter (some m) since #[e.born] clock)) (hb : w.heap[m]? = some (.map #[e] clock)) :
  (Instr.entry (.pointer (some ⟨r, 0, none⟩))).run P w = .ok (.tuple #[e.key, e.val]) w := by
 simp [Instr.entry, getObj, Sem.run, hr, hb, Result.andThen]

variable {o : Oper} {a : Act} {Q : Exit → Act → World → Prop} {ops : Array Oper} {rest : List Oper}
theorem wpList_range (w : World) (hg : o.guard = none) (t k e : TypeId) (x : Operand) (hop : o.op = .range t x) (ht : P.underlying t = some (.map k e)) (m clock : Nat) (es : Array MapEntry) (hx : a.eval x = .map (some m)) (hb : w.heap[m]? = some (.map es clock))
  (h : ∀ w', w'.heap[w.heap.size]? = some (.mapIter (some m) clock #[] clock) → Below w.heap.size w w' → w'.heap.size = w.heap.size + 1 → wpList P ops Q rest (a.put o.dst (.pointer (some ⟨w.heap.size, 0, none⟩))) w') : wpList P ops Q (o :: rest) a w :=
 wpList_plain hg fun K hK => by
  unfold Oper.wp execOp
  simp only [hop, hx]
  simp [run_range_map w t k e m es clock ht hb, Result.andThen]
  exact hK _ _ (h _ (heap_alloc_new w _) ((Below.refl _ _).alloc (Nat.le_refl _) _) (by simp))
/-- An operation that yields a value, its run told. -/
theorem wpList_run (w : World) (hg : o.guard = none) (v : Value) (w' : World) (hr : (execOp a.eval o).run P w = .ok (.value v) w') (h : wpList P ops Q rest (a.put o.dst v) w') : wpList P ops Q (o :: rest) a w :=
 wpList_plain hg fun K hK => by
  unfold Oper.wp
  rw [hr]
  exact hK _ _ h
theorem exec_next {x : Operand} {v : Value} {w' : World} (hop : o.op = .next x false) (hr : (Instr.next (a.eval x) false o.type).run P w = .ok v w') : (execOp a.eval o).run P w = .ok (.value v) w' := by
 unfold execOp
 simp only [hop]
 simp [hr, Result.andThen]
theorem exec_entry {x : Operand} {v : Value} {w' : World} (hop : o.op = .entry x) (hr : (Instr.entry (a.eval x)).run P w = .ok v w') : (execOp a.eval o).run P w = .ok (.value v) w' := by
 unfold execOp
 simp only [hop]
 simp [hr, Result.andThen]
end

theorem RW.nil_len {w : World} {te : TypeId} {s n : Nat} {l : List Value} (h : RW w te s nilV n l) : n = 0 := by
 rcases h.2 with ⟨_, h0⟩ | ⟨g, o, c, cs, e, _⟩
 ·
  exact h0
 ·
  cases e
theorem es_one {es : Array MapEntry} {k v : Value} (h : es.toList.map (fun e => (e.key, e.val)) = [(k, v)]) : ∃ e : MapEntry, es = #[e] ∧ e.key = k ∧ e.val = v := by
 rcases es with ⟨l⟩
 match l, h with
 | [e], h =>
  simp only [List.map_cons, List.map_nil, List.cons.injEq, Prod.mk.injEq, and_true] at h
  exact ⟨e, rfl, h.1, h.2⟩
theorem es_none {es : Array MapEntry} (h : es.toList.map (fun e => (e.key, e.val)) = []) : es = #[] := by
 rcases es with ⟨l⟩
 match l, h with
 | [], _ => rfl
theorem Kp.setBlock {S : Nat → Prop} {w w1 : World} (h : Kp S w w1) {r : Nat} (o : Obj) (hr : S r ∨ w.heap.size ≤ r) : Kp S w (setBlock w1 r o) :=
 ⟨h.os, h.tape, h.output, by show _ ≤ (w1.heap.setIfInBounds r o).size; rw [Array.size_setIfInBounds]; exact h.size, fun k hk hn => by
  show (w1.heap.setIfInBounds r o)[k]? = _
  rw [Array.getElem?_setIfInBounds_ne (fun e => by
   subst e; rcases hr with hr | hr
   ·
    exact hn hr
   ·
    omega)]
  exact h.block k hk hn⟩

set_option maxRecDepth 100000 in
set_option maxHeartbeats 1000000 in
theorem size_any (w : World) (gp gm : Nat) (s : List UInt8) (i : Int) (tv uv : Value) (tk : List Sc) (us : List (List UInt8)) (h : PQ w gp gm s i tv uv tk us) :
  Calls Tryz.prog 43 #[.pointer (some ⟨gp, 0, none⟩)] w fun e w' => e = .returned (.int .i64 ((tk.length + us.length : Nat) : Int)) ∧ Below w.heap.size w w' := by
 have HP := Lib.hid h
 obtain ⟨L, hm, hL⟩ := h.m
 obtain ⟨es, clock, hb, hst, _, hes⟩ := hm
 have HB := Lib.hid hb
 have q0 := h.p.get (j := 0) rfl
 have HOLD := Lib.hid hst.1
 have HES := Lib.hid hes
 have HL := Lib.hid hL
 have hgm : gm < w.heap.size := (Array.getElem?_eq_some_iff.1 hb).1
 clear h hL hst hes hb
 go_enter Tryz.func43, Tryz.ntmps43
 go_wp2_with (first
  | ((with_reducible show OpW 10); refine wpList_range _ rfl 89 31 97 (.tmp 9) rfl stMap gm clock es rfl HB.out ?_; intro w1 a1 a2 a3; have HI1 := Lib.hid a1; have HB1 := Lib.hid a2; have HZ1 := Lib.hid a3; clear a1 a2 a3))
 go_simp
 rcases HL.out with ⟨rfl, rfl, rfl⟩ | rfl
 ·
  obtain rfl := es_none HES.out
  have e1 := RW.nil_len HP.out.st.t
  have e2 := RW.nil_len HP.out.st.u
  go_loopw [3] (fun nv wr => nv = .int .i64 0 ∧ Hid (wr = w1)) (fun _ _ => 0)
  case atStart => exact ⟨rfl, Lib.hid rfl⟩
  case round =>
   obtain ⟨rfl, hw⟩ := hrel
   obtain rfl := hw.out
   have HB' := Lib.hid ((HB1.out.block gm hgm).trans HB.out)
   go_wp2_with (first
    | ((with_reducible show OpW 11); refine wpList_run _ rfl _ _ (exec_next (x := .tmp 10) rfl (next_nil _ HI1.out HB'.out)) ?_))
   go_ret
   exact ⟨rfl, HB1.out⟩
 ·
  obtain ⟨⟨ek, ev, eb⟩, rfl, hk, hv⟩ := es_one HES.out
  obtain rfl : ek = pidV s i := hk
  obtain rfl : ev = stV tv uv := hv
  have HEB : Hid (eb < clock) := Lib.hid (HOLD.out ⟨pidV s i, stV tv uv, eb⟩ (by simp))
  have HO : Hid (∀ v ∈ [tv, uv], v.oneCell' = true) := Lib.hid (by
   obtain ⟨A1, c1, x1, _⟩ := HP.out.st.t.form
   obtain ⟨A2, c2, x2, _⟩ := HP.out.st.u.form
   intro v hv
   simp only [List.mem_cons, List.not_mem_nil, or_false] at hv
   rcases hv with rfl | rfl
   ·
    rw [x1]; rfl
   ·
    rw [x2]; rfl)
  obtain ⟨tt, htt⟩ : ∃ tt, tt = tk.length + us.length := ⟨_, rfl⟩
  have HTT := Lib.hid htt
  have htl : (tt : Int) ≤ 200000 := by have := HP.out.st.bt; have := HP.out.st.bu; omega
  clear htt
  go_loopw [3] (fun nv wr => (nv = .int .i64 0 ∧ Hid (wr.heap[w.heap.size]? = some (.mapIter (some gm) clock #[] clock)) ∧ Hid (Below w.heap.size w wr)) ∨ (nv = .int .i64 (tt : Int) ∧ Hid (wr.heap[w.heap.size]? = some (.mapIter (some gm) clock #[eb] clock)) ∧ Hid (Below w.heap.size w wr))) (fun _ wr => 1 - (wr.iterSeen w.heap.size).size)
  case atStart => exact .inl ⟨rfl, HI1, HB1⟩
  case round =>
   rcases hrel with ⟨rfl, hi, hb⟩ | ⟨rfl, hi, hb⟩
   ·
    obtain ⟨wx, hwx⟩ : ∃ x, x = wr := ⟨_, rfl⟩
    rw [← hwx] at hi hb ⊢
    clear hwx
    have HBm := Lib.hid ((hb.out.block gm hgm).trans HB.out)
    obtain ⟨w2, hw2⟩ : ∃ w2, w2 = setBlock wx w.heap.size (.mapIter (some gm) clock #[eb] clock) := ⟨_, rfl⟩
    have HR2 := Lib.hid hw2
    have hlt := (Array.getElem?_eq_some_iff.1 hi.out).1
    have HI2 : Hid (w2.heap[w.heap.size]? = some (.mapIter (some gm) clock #[eb] clock)) := Lib.hid (by
     rw [hw2]
     show (wx.heap.setIfInBounds _ _)[_]? = _
     simp [hlt])
    have HB2 : Hid (Below w.heap.size w w2) := Lib.hid (by
     rw [hw2]
     exact (Kp.setBlock (S := fun _ => False) (Kp.of_below hb.out) _ (.inr (Nat.le_refl _))).below (Nat.le_refl _) (fun _ h => h.elim))
    have HZ2 : Hid (w2.heap.size = wx.heap.size) := Lib.hid (by rw [hw2]; show (wx.heap.setIfInBounds _ _).size = _; simp)
    have HBm2 := Lib.hid ((HB2.out.block gm hgm).trans HB.out)
    clear hw2
    go_wp2_with (first
     | ((with_reducible show OpW 11); refine wpList_run _ rfl _ w2 (by rw [HR2.out]; exact exec_next (x := .tmp 10) rfl (next_one _ hi.out HBm.out HEB.out)) ?_)
     | ((with_reducible show OpW 13); refine wpList_run _ rfl _ w2 (exec_entry (x := .tmp 10) rfl (entry_one HI2.out HBm2.out)) ?_)
     | ((with_reducible show OpW 5); refine wpList_alloc _ rfl 97 rfl [nilV, nilV] stZero' ?_; intro w3 a1 a2 a3; have HS3 := Lib.hid a1; have HX3 := Lib.hid a2; clear a1 a2 a3)
     | ((with_reducible show OpN); refine wpList_storev _ rfl 97 (.tmp 5) (.tmp 14) rfl 2 (by kernel_rfl) w2.heap.size 0 _ [nilV, nilV] [tv, uv] rfl rfl HS3.out rfl HO.out (by decide) ?_; intro w4 a1 a2 a3; have HS4 : Hid (BL w4 w2.heap.size 97 [tv, uv]) := Lib.hid a1; have HX4 : Hid (Below w2.heap.size w2 w4) := Lib.hid (((Kp.of_below (S := fun _ => False) HX3.out).after a2 (fun i hi e => by omega)).below (Nat.le_refl _) (fun _ h => h.elim)); clear a1 a2 a3)
     | ((with_reducible show OpW 16); refine wpList_loadv _ rfl 97 (.tmp 5) rfl 2 (by kernel_rfl) w2.heap.size 0 [tv, uv] rfl (BL.all HS4.out) rfl ?_)
     | (go_at_call 70; have HB4 := Lib.hid (below_thenB HB2.out HB2.out.size HX4.out); refine (stsize_any w4 tv uv tk us (HP.out.st.kept HB4.out)).mono ?_; rintro e w5 ⟨rfl, b1⟩; rw [← HTT.out]; have HX5 := Lib.hid (below_thenB HX4.out HX4.out.size b1); clear b1))
    go_roundw
    case rel => exact .inr ⟨by go_num, Lib.hid ((HX5.out.block _ (by rw [HZ2.out]; exact hlt)).trans HI2.out), Lib.hid (below_thenB HB2.out HB2.out.size HX5.out)⟩
    case measure =>
     have e1 : wx.iterSeen w.heap.size = #[] := by unfold World.iterSeen; rw [hi.out]
     have e2 : w5.iterSeen w.heap.size = #[eb] := by unfold World.iterSeen; rw [HX5.out.block _ (by rw [HZ2.out]; exact hlt), HI2.out]
     rw [e1, e2]; simp
   ·
    have HBm := Lib.hid ((hb.out.block gm hgm).trans HB.out)
    go_wp2_with (first
     | ((with_reducible show OpW 11); refine wpList_run _ rfl _ _ (exec_next (x := .tmp 10) rfl (next_done _ hi.out HBm.out HEB.out)) ?_))
    go_ret
    exact ⟨by show Ending.returned (.int .i64 (tt : Int)) = _; rw [HTT.out]; simp, hb.out⟩
end Go.Proofs.YtfcakjpljjnjnaaGreatDoor
