/- Several texts in one: Uv, Ch0, Ch1, Tkr, Rbc, Rbk, Rpd. -/
import Derived.Test.YtheijpjfpaghfaaGreatDoorC9
import Derived.Test.YtheijpjfpaghfaaGreatDoorC6
import Derived.Test.YtheijpjfpaghfaaGreatDoorC2
import Derived.Test.YtheijpjfpaghfaaGreatDoorC5
/- Contracts of wire.extend and wire.AppendUint. -/
namespace Go.Proofs.YtheijpjfpaghfaaGreatDoor
open Go.RowKit Gf Sha

theorem or128 (b : UInt8) : bits .or .u8 (bv b) 128 = bv (b ||| 128) := Gf.or_bits b 128
attribute [local go_sem] or128
theorem uvf_small (f n : Nat) (h : n < 128) : uvf f n = [UInt8.ofNat n] := by
 cases f with
 | zero => rfl
 | succ f => rw [uvf, if_pos h]
theorem uvf_more (f n : Nat) (h : ¬ n < 128) : uvf (f + 1) n = (UInt8.ofNat n ||| 128) :: uvf f (n >>> 7) := by rw [uvf, if_neg h]
theorem uvf_length (f n : Nat) : 1 ≤ (uvf f n).length ∧ (uvf f n).length ≤ f + 1 := by
 induction f generalizing n with
 | zero => exact ⟨Nat.le_refl _, Nat.le_refl _⟩
 | succ f ih =>
  rw [uvf]
  split
  ·
   simp
  ·
   have := ih (n >>> 7); simp; omega
theorem uv_length (n : Nat) : 1 ≤ (uv n).length ∧ (uv n).length ≤ 11 := uvf_length 10 n

/-- What extend leaves. -/
def ExtRet (base : Nat) (L : List UInt8) (w : World) (e : Ending) (w' : World) : Prop := ∃ v g n c, e = .returned v ∧ v = .slice (some ⟨g, 0, none⟩) n c ∧ L.length = n ∧ w'.ownsRow base 5 1 v n (L.map B) ∧ Below base w w' ∧ w.heap.size ≤ w'.heap.size

set_option maxRecDepth 100000 in
set_option maxHeartbeats 1000000 in
theorem extend_any (base m n : Nat) (v : Value) (l : List UInt8) (w : World) (ho : w.ownsRow base 5 1 v m (l.map B)) (hbase : base ≤ w.heap.size) (hm : m ≤ 10000000) (hn : n < 9223372036854775808) :
  Calls Tryz.prog 86 #[v, .int .u64 (n : Int)] w (ExtRet base (l ++ uv n) w) := by
 have HO := Lib.hid ho
 have HBS := Lib.hid hbase
 have HN := Lib.hid hn
 have HMB := Lib.hid hm
 clear ho hbase hn hm
 go_enter Tryz.func86, Tryz.ntmps86
 go_wp2_with fail
 go_loopw [0, 1] (fun x y wr => ∃ (v1 : Value) (m1 n1 f : Nat) (l1 : List UInt8), m1 ≤ m + 10 ∧ f ≤ 10 ∧ x = v1 ∧ y = .int .u64 (n1 : Int) ∧ Hid (n1 < 9223372036854775808) ∧ Hid (m1 + f = m + 10) ∧ Hid (n1 < 2 ^ (7 * (f + 1))) ∧ Hid (l1 ++ uvf f n1 = l ++ uv n) ∧ Hid (wr.ownsRow base 5 1 v1 m1 (l1.map B)) ∧ Hid (Below base w wr) ∧ Hid (w.heap.size ≤ wr.heap.size)) (fun _ y _ => (intOf y).toNat)
 case atStart => exact ⟨_, m, n, 10, l, by omega, by omega, rfl, rfl, HN, Lib.hid rfl, Lib.hid (by have := HN.out; exact Nat.lt_of_lt_of_le this (by decide)), Lib.hid rfl, HO, Lib.hid (Below.refl _ _), Lib.hid (Nat.le_refl _)⟩
 case round =>
  obtain ⟨v1, m1, n1, f, l1, hm1, hf, rfl, rfl, hn1, hmf, hnf, hl, ho1, hb1, hz1⟩ := hrel
  obtain ⟨wx, hwx⟩ : ∃ x, x = wr := ⟨_, rfl⟩
  rw [← hwx] at ho1 hb1 hz1 ⊢
  clear hwx
  have HBX : Hid (base ≤ wx.heap.size) := Lib.hid (by have := HBS.out; have := hz1.out; omega)
  have HMK : Hid (m1 < 100000000) := Lib.hid (by have := HMB.out; omega)
  by_cases hlt : n1 < 128
  ·
   have HBK : Hid (Blk (wx.alloc (.cells #[B (UInt8.ofNat n1)] 5)) wx.heap.size 5 #[B (UInt8.ofNat n1)]) := Lib.hid (Blk.new wx 5 #[B (UInt8.ofNat n1)])
   have HOO := Lib.hid (ho1.out.kept (World.grownBy_alloc wx (.cells #[B (UInt8.ofNat n1)] 5) none) (by rcases ho1.out.2 with ⟨rfl, _⟩ | ⟨_, _, _, rfl, _⟩ <;> simp [Value.ownBlock]))
   have HBB := Lib.hid (hb1.out.alloc HBX.out (.cells #[B (UInt8.ofNat n1)] 5))
   have HSB : Hid (base ≤ (wx.alloc (.cells #[B (UInt8.ofNat n1)] 5)).heap.size) := Lib.hid (by have := HBX.out; simp; omega)
   have HE : Hid (l1 ++ [UInt8.ofNat n1] = l ++ uv n) := Lib.hid (by rw [← hl.out, uvf_small f n1 hlt])
   go_wp2_with (first
    | ((with_reducible show OpW 17); refine wpList_u8N _ rfl (.tmp 16) 98 5 rfl _ .u64 Tryz.underlying98 Tryz.underlying5 n1 _ rfl rfl ?_)
    | ((with_reducible show OpW 19); refine wpList_app1 _ rfl (.tmp 15) (.tmp 18) 22 5 (.int .u8 0) 1 Tryz.underlying22 infoU8 rfl rfl base _ m1 _ rfl HOO.out wx.heap.size 1 5 (B (UInt8.ofNat n1)) rfl HBK.out rfl (by have := HMK.out; omega) (by have := HMK.out; omega) HSB.out ?_; intro v6 w6 hp))
   obtain ⟨g6, c6, rfl⟩ := hp.form (by omega)
   go_ret
   refine ⟨_, g6, m1 + 1, c6, rfl, rfl, ?_, ?_, hp.below HOO.out HBB.out (Nat.le_refl _) HSB.out, ?_⟩
   ·
    rw [← HE.out, List.length_append]
    have := ho1.out.1
    simp at this
    simp [this]
   ·
    have := hp.own
    rw [← HE.out, List.map_append]
    exact this
   ·
    have h1 := hz1.out
    have h2 := hp.2.1.size
    simp at h2
    omega
  ·
   obtain ⟨f, rfl⟩ : ∃ f', f = f' + 1 := ⟨f - 1, by
    rcases Nat.eq_zero_or_pos f with h0 | h0
    ·
     subst h0; have := hnf.out; omega
    ·
     omega⟩
   have hge : 128 ≤ n1 := by omega
   have hsr : n1 >>> 7 = n1 / 128 := by rw [Nat.shiftRight_eq_div_pow]
   have hn2 : Hid (n1 >>> 7 < 9223372036854775808) := Lib.hid (by have := hn1.out; omega)
   have hlt2 : n1 >>> 7 < n1 := by omega
   have HSR := Lib.hid hsr
   clear hsr
   have HBK : Hid (Blk (wx.alloc (.cells #[B (UInt8.ofNat n1 ||| 128)] 5)) wx.heap.size 5 #[B (UInt8.ofNat n1 ||| 128)]) := Lib.hid (Blk.new wx 5 #[B (UInt8.ofNat n1 ||| 128)])
   have HOO := Lib.hid (ho1.out.kept (World.grownBy_alloc wx (.cells #[B (UInt8.ofNat n1 ||| 128)] 5) none) (by rcases ho1.out.2 with ⟨rfl, _⟩ | ⟨_, _, _, rfl, _⟩ <;> simp [Value.ownBlock]))
   have HBB := Lib.hid (hb1.out.alloc HBX.out (.cells #[B (UInt8.ofNat n1 ||| 128)] 5))
   have HSB : Hid (base ≤ (wx.alloc (.cells #[B (UInt8.ofNat n1 ||| 128)] 5)).heap.size) := Lib.hid (by have := HBX.out; simp; omega)
   have HE : Hid ((l1 ++ [UInt8.ofNat n1 ||| 128]) ++ uvf f (n1 >>> 7) = l ++ uv n) := Lib.hid (by rw [← hl.out, uvf_more f n1 hlt, List.append_assoc]; rfl)
   have HF : Hid (n1 >>> 7 < 2 ^ (7 * (f + 1))) := Lib.hid (by
    rw [HSR.out]
    have h1 := hnf.out
    rw [show 7 * (f + 1 + 1) = 7 * (f + 1) + 7 by omega, Nat.pow_add] at h1
    exact Nat.div_lt_of_lt_mul (by rw [Nat.mul_comm]; exact h1))
   go_wp2_with (first
    | ((with_reducible show OpW 9); refine wpList_u8N _ rfl (.tmp 8) 98 5 rfl _ .u64 Tryz.underlying98 Tryz.underlying5 n1 _ rfl rfl ?_)
    | ((with_reducible show OpW 12); refine wpList_app1 _ rfl (.tmp 7) (.tmp 11) 22 5 (.int .u8 0) 1 Tryz.underlying22 infoU8 rfl rfl base _ m1 _ rfl HOO.out wx.heap.size 1 5 (B (UInt8.ofNat n1 ||| 128)) rfl HBK.out rfl (by have := HMK.out; omega) (by have := HMK.out; omega) HSB.out ?_; intro v6 w6 hp; have HP := Lib.hid hp; clear hp)
    | ((with_reducible show OpW 14); refine wpList_shrN _ rfl (.tmp 13) _ _ _ rfl .u64 n1 7 _ 7 rfl rfl rfl rfl (by decide) ?_))
   go_roundw
   case rel => exact ⟨v6, m1 + 1, n1 >>> 7, f, l1 ++ [UInt8.ofNat n1 ||| 128], by have := hmf.out; omega, by omega, rfl, rfl, hn2, Lib.hid (by have := hmf.out; omega), HF, HE, Lib.hid (by have := HP.out.own; rw [List.map_append]; exact this), Lib.hid (HP.out.below HOO.out HBB.out (Nat.le_refl _) HSB.out), Lib.hid (by have h1 := hz1.out; have h2 := HP.out.2.1.size; simp at h2; omega)⟩
   case measure => simp only [intOf, Int.toNat_natCast]; exact hlt2

set_option maxHeartbeats 400000 in
theorem appu_any (A : Option Addr) (n c k : Nat) (l : List UInt8) (w : World) (h : BS w A n c l) (hn : n ≤ 1000000) (hk : k < 9223372036854775808) :
  Calls Tryz.prog 58 #[.slice A n c, .int .u64 (k : Int)] w (ExtRet w.heap.size (l ++ uv k) w) := by
 have H := Lib.hid h
 have HK := Lib.hid hk
 clear h hk
 go_enter Tryz.func58, Tryz.ntmps58
 go_wp2_with (first
  | ((with_reducible show OpW 8); refine wpList_mk _ rfl 22 5 _ _ rfl (.int .u8 0) 1 Tryz.underlying22 infoU8 rfl 0 (n + 10) 0 _ rfl rfl rfl (by omega) (by omega) (by omega) (by omega) ?_; intro w2 b1 b2 b3; have HB1 := Lib.hid b1; have HB2 := Lib.hid b2; have HB3 := Lib.hid b3; clear b1 b2 b3)
  | ((with_reducible show OpW 10); refine wpList_appB _ rfl (.tmp 8) (.tmp 9) rfl w.heap.size _ 0 [] rfl (BL.own0 HB1.out (Nat.le_refl _) (by simp) (by unfold lim; omega)) A n c l rfl (H.out.kept HB2.out) (by omega) HB2.out.size ?_; intro v3 w3 hp; have HP := Lib.hid hp; clear hp)
  | (go_at_call 86; refine (extend_any w.heap.size (0 + n) k v3 l w3 HP.out.own (by have h2 := HP.out.2.1.size; have := HB2.out.size; omega) (by omega) HK.out).mono ?_; rintro e w4 ⟨v4, g4, n4, c4, rfl, rfl, r1, r2, r3, r4⟩))
 go_ret
 have hb : Below w.heap.size w w3 := HP.out.below (BL.own0 HB1.out (Nat.le_refl _) (by simp) (by unfold lim; omega)) HB2.out (Nat.le_refl _) HB2.out.size
 exact ⟨_, g4, n4, c4, rfl, rfl, r1, r2, hb.trans r3, Nat.le_trans hb.size r4⟩
end Go.Proofs.YtheijpjfpaghfaaGreatDoor
/- Contracts of package challenge's tests: areKeys, isID, isData, isRange. -/
namespace Go.Proofs.YtheijpjfpaghfaaGreatDoor
open Go.RowKit Gf Sha

theorem ret_bool {a b : Bool} (h : a = b) : Ending.returned (.bool a) = .returned (.bool b) := by rw [h]
/-- Keys. -/
structure Ky where
 nm : List UInt8
 st : List UInt8
 ck : List UInt8
 ix : List UInt8
 tk : List UInt8
def Ky.list (K : Ky) : List (List UInt8) := [K.nm, K.st, K.ck, K.ix, K.tk]
/-- The value of keys. -/
abbrev Ky.val (K : Ky) : Value := .agg #[.string (strB K.nm), .string (strB K.st), .string (strB K.ck), .string (strB K.ix), .string (strB K.tk)]
/-- Are keys valid? -/
def okK (K : Ky) : Bool := K.list.all fun l => decide (l.length = 32)
theorem okK_nm {K : Ky} (h : okK K = true) : ∀ l ∈ K.list, l.length = 32 := fun l hl => by
 have := List.all_eq_true.1 h l hl
 simpa using this
theorem okK_tk {K : Ky} (h : okK K = true) : K.tk.length = 32 := okK_nm h _ (by simp [Ky.list])
def idB (s : List UInt8) (i : Int) : Bool := decide (s.length = 32) && (decide (0 ≤ i) && decide (i < 16))
def dataB (n : Nat) : Bool := decide (1 ≤ n) && decide (n ≤ 65536)
def rangeB (f c : Int) : Bool := decide (0 ≤ f) && (decide (f ≤ 1099511627776) && (decide (0 ≤ c) && (decide (c ≤ 256) && decide (f + c ≤ 1099511627776))))
theorem list_get (K : Ky) (k : Nat) (h : k < 5) : (#[.string (strB K.nm), .string (strB K.st), .string (strB K.ck), .string (strB K.ix), .string (strB K.tk)] : Array Value)[k]? = some (.string (strB (gR K.list k))) := by
 match k, h with
 | 0, _ => rfl
 | 1, _ => rfl
 | 2, _ => rfl
 | 3, _ => rfl
 | 4, _ => rfl
theorem okK_false {K : Ky} {k : Nat} (hk : k < 5) (h : (gR K.list k).length ≠ 32) : okK K = false := by
 rw [okK, Bool.eq_false_iff, Ne, List.all_eq_true]
 intro h2
 have h3 := h2 (gR K.list k) (by rw [gR_eq (by exact hk)]; exact List.getElem_mem _)
 exact h (by simpa using h3)
theorem okK_true {K : Ky} (h : ∀ k, k < 5 → (gR K.list k).length = 32) : okK K = true := by
 rw [okK, List.all_eq_true]
 intro l hl
 obtain ⟨k, hk, rfl⟩ := List.mem_iff_getElem.1 hl
 have := h k hk
 rw [gR_eq hk] at this
 simpa using this

set_option maxRecDepth 100000 in
set_option maxHeartbeats 1000000 in
theorem areKeys_any (K : Ky) (w : World) :
  Calls Tryz.prog 60 #[K.val] w fun e w' => e = .returned (.bool (okK K)) ∧ Below w.heap.size w w' := by
 go_enter Tryz.func60, Tryz.ntmps60
 go_wp2_with fail
 have HB0 : Hid (Below w.heap.size w (w.alloc (.cells #[.string (strB K.nm), .string (strB K.st), .string (strB K.ck), .string (strB K.ix), .string (strB K.tk)] 68))) := Lib.hid ((Below.refl _ _).alloc (Nat.le_refl _) _)
 generalize w.alloc (.cells #[.string (strB K.nm), .string (strB K.st), .string (strB K.ck), .string (strB K.ix), .string (strB K.tk)] 68) = w1 at HB0 ⊢
 go_loop [16] (fun i => ∃ k : Nat, k ≤ 5 ∧ i = .int .i64 (k : Int) ∧ Hid (∀ j, j < k → (gR K.list j).length = 32)) (fun i => 5 - (intOf i).toNat)
 case atStart => exact ⟨0, by omega, rfl, Lib.hid (fun j hj => by omega)⟩
 case round =>
  obtain ⟨k, hk, rfl, ha⟩ := hrel
  by_cases hlt : k < 5
  ·
   have c1 := run_index (P := Tryz.prog) w1 Tryz.underlying155 (by kernel_rfl) (by kernel_rfl) hlt (list_get K k hlt)
   by_cases hl : (gR K.list k).length = 32
   ·
    have ht : (((strB (gR K.list k)).size : Int) != 32) = false := by rw [strB_size, hl]; rfl
    have HL := Lib.hid hl
    clear hl
    go_wp2_with fail
    go_round
    case rel => exact ⟨k + 1, by omega, by go_num, Lib.hid (fun j hj => by
     rcases Nat.lt_or_ge j k with h1 | h1
     ·
      exact ha.out j h1
     ·
      obtain rfl : j = k := by omega
      exact HL.out)⟩
    case measure => simp [intOf]; omega
   ·
    have ht : (((strB (gR K.list k)).size : Int) != 32) = true := by rw [strB_size]; simp only [bne_iff_ne, ne_eq]; omega
    have HE : Hid (okK K = false) := Lib.hid (okK_false hlt hl)
    clear hl
    go_wp2_with fail
    go_ret
    exact ⟨ret_bool HE.out.symm, HB0.out⟩
  ·
   obtain rfl : k = 5 := by omega
   have HE : Hid (okK K = true) := Lib.hid (okK_true ha.out)
   go_wp2_with fail
   go_ret
   exact ⟨ret_bool HE.out.symm, HB0.out⟩

set_option maxHeartbeats 400000 in
theorem isID_any (s : List UInt8) (i : Int) (w : World) :
  Calls Tryz.prog 33 #[.agg #[.string (strB s), .int .i64 i]] w fun e w' => e = .returned (.bool (idB s i)) ∧ Below w.heap.size w w' := by
 have kb : Below w.heap.size w (w.alloc (.cells #[.string (strB s), .int .i64 i] 39)) := (Below.refl _ _).alloc (Nat.le_refl _) _
 by_cases h : s.length = 32
 ·
  have h1 : (((strB s).size : Int) == 32) = true := by rw [strB_size, h]; rfl
  have e1 : idB s i = (decide (0 ≤ i) && decide (i < 16)) := by rw [idB, decide_eq_true h, Bool.true_and]
  have HE := Lib.hid e1
  clear h e1
  by_cases h0 : 0 ≤ i
  ·
   have h2 : decide (0 ≤ i) = true := decide_eq_true h0
   rw [h2, Bool.true_and] at HE
   clear h0
   go_enter Tryz.func33, Tryz.ntmps33
   go_wp2
   go_ret
   exact ⟨ret_bool HE.out.symm, kb⟩
  ·
   have h2 : decide (0 ≤ i) = false := decide_eq_false h0
   rw [h2, Bool.false_and] at HE
   clear h0
   go_enter Tryz.func33, Tryz.ntmps33
   go_wp2
   go_ret
   exact ⟨ret_bool HE.out.symm, kb⟩
 ·
  have h1 : (((strB s).size : Int) == 32) = false := by rw [strB_size]; simp only [beq_eq_false_iff_ne, ne_eq]; omega
  have HE : Hid (idB s i = false) := Lib.hid (by rw [idB, decide_eq_false h, Bool.false_and])
  clear h
  go_enter Tryz.func33, Tryz.ntmps33
  go_wp2
  go_ret
  exact ⟨ret_bool HE.out.symm, kb⟩

set_option maxHeartbeats 400000 in
theorem isData_any (A : Option Addr) (n c : Nat) (w : World) :
  Calls Tryz.prog 61 #[.slice A n c] w fun e w' => e = .returned (.bool (dataB n)) ∧ w = w' := by
 by_cases h : 1 ≤ n
 ·
  have e1 : dataB n = decide (n ≤ 65536) := by rw [dataB, decide_eq_true h, Bool.true_and]
  have e2 : dataB n = decide ((n : Int) ≤ 65536) := by rw [e1]; simp only [decide_eq_decide]; omega
  have HE := Lib.hid e2
  have h1 : decide (1 ≤ (n : Int)) = true := decide_eq_true (by omega)
  clear e1 e2 h
  go_enter Tryz.func61, Tryz.ntmps61
  go_wp2
  all_goals go_ret
  all_goals exact ⟨ret_bool HE.out.symm, rfl⟩
 ·
  obtain rfl : n = 0 := by omega
  go_enter Tryz.func61, Tryz.ntmps61
  go_wp2
  all_goals go_ret
  all_goals exact ⟨rfl, rfl⟩

set_option maxHeartbeats 1000000 in
theorem isRange_any (f c : Int) (w : World) :
  Calls Tryz.prog 62 #[.int .i64 f, .int .i64 c] w fun e w' => e = .returned (.bool (rangeB f c)) ∧ w = w' := by
 have e1 : rangeB f c = (decide (0 ≤ f) && (decide (f ≤ 1099511627776) && (decide (0 ≤ c) && (decide (c ≤ 256) && decide (f + c ≤ 1099511627776))))) := rfl
 have HE := Lib.hid e1
 clear e1
 by_cases h1 : 0 ≤ f
 ·
  have d1 : decide (0 ≤ f) = true := decide_eq_true h1
  rw [d1, Bool.true_and] at HE
  by_cases h2 : f ≤ 1099511627776
  ·
   have d2 : decide (f ≤ 1099511627776) = true := decide_eq_true h2
   rw [d2, Bool.true_and] at HE
   by_cases h3 : 0 ≤ c
   ·
    have d3 : decide (0 ≤ c) = true := decide_eq_true h3
    rw [d3, Bool.true_and] at HE
    by_cases h4 : c ≤ 256
    ·
     have d4 : decide (c ≤ 256) = true := decide_eq_true h4
     rw [d4, Bool.true_and] at HE
     go_enter Tryz.func62, Tryz.ntmps62
     go_wp2
     go_ret
     exact ⟨ret_bool HE.out.symm, rfl⟩
    ·
     have d4 : decide (c ≤ 256) = false := decide_eq_false h4
     rw [d4, Bool.false_and] at HE
     clear h4
     go_enter Tryz.func62, Tryz.ntmps62
     go_wp2
     go_ret
     exact ⟨ret_bool HE.out.symm, rfl⟩
   ·
    have d3 : decide (0 ≤ c) = false := decide_eq_false h3
    rw [d3, Bool.false_and] at HE
    clear h3
    go_enter Tryz.func62, Tryz.ntmps62
    go_wp2
    go_ret
    exact ⟨ret_bool HE.out.symm, rfl⟩
  ·
   have d2 : decide (f ≤ 1099511627776) = false := decide_eq_false h2
   rw [d2, Bool.false_and] at HE
   clear h2
   go_enter Tryz.func62, Tryz.ntmps62
   go_wp2
   go_ret
   exact ⟨ret_bool HE.out.symm, rfl⟩
 ·
  have d1 : decide (0 ≤ f) = false := decide_eq_false h1
  rw [d1, Bool.false_and] at HE
  clear h1
  go_enter Tryz.func62, Tryz.ntmps62
  go_wp2
  go_ret
  exact ⟨ret_bool HE.out.symm, rfl⟩
end Go.Proofs.YtheijpjfpaghfaaGreatDoor
/- Contracts of challenge.nonce, Nonce, Answer, Judge. -/
namespace Go.Proofs.YtheijpjfpaghfaaGreatDoor
open Go.RowKit Gf Sha

/-- The nonce number n of a piece. -/
def nonceL (K : Ky) (s : List UInt8) (i n : Nat) : List UInt8 := tagL K.tk ((([110, 111, 110, 99, 101] ++ s) ++ uv i) ++ uv n)
theorem nonceL_length (K : Ky) (s : List UInt8) (i n : Nat) : (nonceL K s i n).length = 32 := rfl
theorem wrap_u64 (n : Nat) (h : n < 9223372036854775808) : IntKind.u64.wrap (n : Int) = (n : Int) := by
 show (n : Int) % 18446744073709551616 = _; omega

def Ky.cells (K : Ky) : List Value := [.string (strB K.nm), .string (strB K.st), .string (strB K.ck), .string (strB K.ix), .string (strB K.tk)]
theorem bsl5 (a b c d e : UInt8) (w : World) : (Instr.buildSlice 22 5 #[(0, B a), (1, B b), (2, B c), (3, B d), (4, B e)]).run Tryz.prog w = .ok (.slice (some ⟨w.heap.size, 0, none⟩) 5 5) (w.alloc (.cells [B a, B b, B c, B d, B e].toArray 5)) := by kernel_rfl

set_option maxRecDepth 100000 in
set_option maxHeartbeats 1000000 in
theorem nonce_any (K : Ky) (s : List UInt8) (i n : Nat) (w : World) (hT : Tabs w) (hK : okK K = true) (hs : s.length = 32) (hi : i < 16) (hn : n ≤ 1099511627776) :
  Calls Tryz.prog 63 #[K.val, .agg #[.string (strB s), .int .i64 (i : Int)], .int .i64 (n : Int)] w fun e w' => e = .returned (.string (strB (nonceL K s i n))) ∧ Below w.heap.size w w' := by
 have HT := Lib.hid hT
 have HK := Lib.hid hK
 have HS := Lib.hid hs
 have HI := Lib.hid hi
 have HN := Lib.hid hn
 have hin : (i : Int) < 16 := by omega
 have hnn : (n : Int) ≤ 1099511627776 := by omega
 have hwn := wrap_u64 n (by omega)
 clear hT hK hs hi hn
 go_enter Tryz.func63, Tryz.ntmps63
 go_wp2_with (first
  | ((with_reducible show OpW 3); refine wpList_box _ rfl 68 (.tmp 0) rfl K.cells rfl ?_; intro w1 a1 a2 a3; have HG1 := Lib.hid a1; have HB1 := Lib.hid a2; have HZ1 := Lib.hid a3; clear a1 a2 a3)
  | ((with_reducible show OpW 4); refine wpList_box _ rfl 39 (.tmp 1) rfl [.string (strB s), .int .i64 (i : Int)] rfl ?_; intro w2 a1 a2 a3; have HP2 := Lib.hid a1; have HB2 := Lib.hid (below_then HB1.out (a2.mono (Nat.le_refl _))); have HG2 := Lib.hid (HG1.out.kept a2); clear a1 a2 a3)
  | ((with_reducible show OpW 8); refine wpList_bslice _ rfl 22 5 5 _ rfl #[(0, B 110), (1, B 111), (2, B 110), (3, B 99), (4, B 101)] (by rw [List.map_toArray]; rfl) (([110, 111, 110, 99, 101] : List UInt8).map B) (bsl5 110 111 110 99 101 _) ?_; intro w3 a1 a2 a3; have HC3 := Lib.hid a1; have HB3 := Lib.hid (below_then HB2.out a2); have HG3 := Lib.hid (HG2.out.kept a2); have HP3 := Lib.hid (HP2.out.kept a2); clear a1 a2 a3)
  | ((with_reducible show OpW 9); refine wpList_same _ rfl (.tmp 8) rfl w2.heap.size 5 5 [110, 111, 110, 99, 101] rfl HC3.out rfl (by decide) rfl ?_; intro w4 a1 a2 a3; have HC4 := Lib.hid a1; have HB4 : Hid (Below w.heap.size w w4) := Lib.hid (((Kp.of_below (S := fun _ => False) HB3.out).after a2 (fun i hi e => by have := HB2.out.size; omega)).below (Nat.le_refl _) (fun _ h => h.elim)); have HG4 := Lib.hid (HG3.out.kp a2 (by have := HG2.out.lt; show ¬ _ = _; omega)); have HP4 := Lib.hid (HP3.out.kp a2 (by have := HP2.out.lt; show ¬ _ = _; omega)); have q1 := HP4.out.get (j := 0) rfl; clear a1 a2 a3)
  | ((with_reducible show OpW 12); refine wpList_growS _ rfl (.tmp 9) (.tmp 11) rfl _ 5 5 [110, 111, 110, 99, 101] s rfl HC4.out rfl (by rw [HS.out]; decide) (by rw [HS.out]; decide) ?_; intro v5 w5 a1; obtain ⟨A5, c5, rfl, b5⟩ := BS.of_own a1.own (by rw [HS.out]; decide); have HS5 := Lib.hid b5; clear b5; have HB5 := Lib.hid (below_thenB HB4.out HB4.out.size a1.below); have HG5 := Lib.hid (HG4.out.kept a1.below); have HP5 := Lib.hid (HP4.out.kept a1.below); have q2 := HP5.out.get (j := 1) rfl; clear q1 a1)
  | (go_at_call 58; refine (appu_any A5 (5 + s.length) c5 i ([110, 111, 110, 99, 101] ++ s) w5 HS5.out (by rw [HS.out]; decide) (by have := HI.out; omega)).mono ?_; rintro e w6 ⟨v6, g6, n6, c6, rfl, rfl, r1, r2, r3, r4⟩; have HB6 := Lib.hid (below_thenB HB5.out HB5.out.size r3); have HG6 := Lib.hid (HG5.out.kept r3); have HN6 := Lib.hid r1; have HR6 := Lib.hid r2; clear r1 r2 r3 r4 q2))
 have HL6 : Hid (n6 ≤ 1000000) := Lib.hid (by rw [← HN6.out, List.length_append, List.length_append, HS.out]; have := uv_length i; show 5 + 32 + _ ≤ _; omega)
 obtain ⟨A7, c7, e7, hb7⟩ := BS.of_own HR6.out (by have := HL6.out; unfold lim; omega)
 cases e7
 have HS7 := Lib.hid hb7
 have HQ : Hid (∀ w', Below w6.heap.size w6 w' → w'.cell? ⟨w.heap.size, 4, none⟩ = some (.string (strB K.tk))) := Lib.hid (fun w' hb => (HG6.out.kept hb).get (j := 4) rfl)
 have HT6 := Lib.hid (HT.out.kept HB6.out)
 clear hb7
 refine Text.wp_region_text (fun w' => w'.cell? ⟨w.heap.size, 4, none⟩ = some (.string (strB K.tk))) [(0, 4), (2, 4), (3, 4), (4, 4), (1, 0), (5, 2), (6, 2), (7, 4)] (by kernel_rfl) (by kernel_rfl) (fun _ _ _ _ _ h => h) (HQ.out _ (Below.refl _ _).drew) ?_
 iterate 4 (refine Text.purek rfl rfl (fun K hK => ⟨_, fun w' => by go_simp <;> rfl, ?_⟩); go_simp; refine hK _ ?_; clear hK K)
 (refine Text.heldk rfl rfl (fun K hK => ⟨_, fun w' hw' => by go_simp <;> rfl, ?_⟩); go_simp; refine hK _ ?_; clear hK K)
 refine Text.eff rfl rfl (fun K hK => ?_)
 go_simp
 refine (appu_any _ n6 c6 n _ w6.drew HS7.out.drew HL6.out (by have := HN.out; omega)).mono ?_
 rintro e w8 ⟨v8, g8, n8, c8, rfl, rfl, r1, r2, r3, r4⟩
 have HX8 : Hid (Below w6.heap.size w6 w8) := Lib.hid (below_then (Below.refl _ _).drew r3)
 have HN8 := Lib.hid r1
 have HL8 : Hid (n8 ≤ 1000000) := Lib.hid (by rw [← r1, List.length_append, List.length_append, List.length_append, HS.out]; have := uv_length i; have := uv_length n; show 5 + 32 + _ + _ ≤ _; omega)
 obtain ⟨A9, c9, e9, hb9⟩ := BS.of_own r2 (by have := HL8.out; unfold lim; omega)
 cases e9
 have HS9 := Lib.hid hb9
 refine hK _ _ (HQ.out _ HX8.out) ?_
 clear hK K r1 r2 r3 r4 hb9
 refine Text.eff rfl rfl (fun K hK => ?_)
 go_simp
 refine (tag_any _ n8 c8 _ _ w8 HS9.out (HT6.out.kept HX8.out) (by rw [okK_tk HK.out]; decide)).mono ?_
 rintro e w10 ⟨rfl, b10⟩
 have HX10 : Hid (Below w6.heap.size w6 w10) := Lib.hid (below_then HX8.out b10)
 refine hK _ _ (HQ.out _ HX10.out) ?_
 clear hK K b10
 (refine Text.purek rfl rfl (fun K hK => ⟨_, fun w' => by go_simp <;> rfl, ?_⟩); go_simp; refine hK _ ?_; clear hK K)
 refine Text.done ?_
 go_wp2_with fail
 go_ret
 refine ⟨?_, below_thenB HB6.out HB6.out.size HX10.out⟩
 rw [show nonceL K s i n = tagL K.tk (110 :: 111 :: 110 :: 99 :: 101 :: (s ++ (uv i ++ uv n))) by simp [nonceL]]
 rfl

theorem answer_yes (k : List UInt8) (A : Option Addr) (n c : Nat) (l : List UInt8) (w : World) (hl : BS w A n c l) (hT : Tabs w) (h32 : k.length = 32) (hd : dataB n = true) :
  Calls Tryz.prog 26 #[.string (strB k), .slice A n c] w fun e w' => e = .returned (.tuple #[.string (strB (tagL k l)), .int .i64 0]) ∧ Below w.heap.size w w' := by
 have h1 : (((strB k).size : Int) != 32) = false := by rw [strB_size, h32]; rfl
 have HD := Lib.hid hd
 have H := Lib.hid hl
 have HT := Lib.hid hT
 have H32 := Lib.hid h32
 clear h32 hd hl hT
 go_enter Tryz.func26, Tryz.ntmps26
 go_wp2_with (first
  | (go_at_call 61; refine (isData_any A n c w).mono ?_; rintro e w' ⟨rfl, rfl⟩; rw [HD.out])
  | (go_at_call 57; refine (tag_any A n c k l w H.out HT.out (by rw [H32.out]; decide)).mono ?_; rintro e w' ⟨rfl, b1⟩))
 go_ret2
 exact ⟨rfl, b1⟩
/-- A token. -/
structure Tk where
 s : List UInt8
 i : Int
 n : List UInt8
 a : List UInt8
abbrev Tk.cells (t : Tk) : List Value := [.string (strB t.s), .int .i64 t.i, .string (strB t.n), .string (strB t.a)]
theorem judge_any (t : Tk) (a : List UInt8) (w : World) :
  Calls Tryz.prog 27 #[.agg t.cells.toArray, .string (strB a)] w fun e w' => e = .returned (.bool (decide (t.a.length = 32) && decide (t.a = a))) ∧ Below w.heap.size w w' := by
 go_enter Tryz.func27, Tryz.ntmps27
 go_wp2_with (go_at_call 64; refine (hequal_any t.a a _).mono ?_; rintro e w' ⟨rfl, rfl⟩)
 go_ret
 exact ⟨rfl, (Below.refl _ _).alloc (Nat.le_refl _) _⟩
end Go.Proofs.YtheijpjfpaghfaaGreatDoor
/- Rows of elements of many cells: tokens. Plain, but for the words on memory. -/
namespace Go.Proofs.YtheijpjfpaghfaaGreatDoor
open Go Go.RowKit Gf

section
variable {α : Type} {f : α → List Value} {s : Nat}
theorem flat_length (hf : ∀ x, (f x).length = s) (l : List α) : (l.flatMap f).length = l.length * s := by
 induction l with
 | nil => simp
 | cons x l ih => rw [List.flatMap_cons, List.length_append, hf, ih, List.length_cons, Nat.succ_mul]; omega
theorem flat_split (l : List α) (k : Nat) (h : k < l.length) : l.flatMap f = (l.take k).flatMap f ++ f l[k] ++ (l.drop (k + 1)).flatMap f := by
 conv => lhs; rw [← List.take_append_drop k l, List.drop_eq_getElem_cons h]
 rw [List.flatMap_append, List.flatMap_cons, List.append_assoc]
theorem splice_mid (A X C vs : List Value) (o : Nat) (ho : o = A.length) (h : vs.length = X.length) : splice (A ++ X ++ C) o vs = A ++ vs ++ C := by
 subst ho
 unfold splice
 have e1 : (A ++ X ++ C).take A.length = A := by rw [List.append_assoc, List.take_left]
 have e2 : (A ++ X ++ C).drop (A.length + vs.length) = C := by rw [h, ← List.length_append, List.drop_left]
 rw [e1, e2]
theorem flat_splice (hf : ∀ x, (f x).length = s) (l : List α) (k : Nat) (h : k < l.length) (x : α) : splice (l.flatMap f) (k * s) (f x) = (l.set k x).flatMap f := by
 have h2 : (l.set k x).length = l.length := List.length_set
 rw [flat_split (f := f) l k h, flat_split (f := f) (l.set k x) k (by omega), List.getElem_set_self, List.take_set_of_le (Nat.le_refl _), List.drop_set_of_lt (by omega)]
 exact splice_mid _ _ _ _ _ (by rw [flat_length hf, List.length_take, Nat.min_eq_left (by omega)]) (by rw [hf, hf])
theorem BL.elem {w : World} {g : Nat} {t : TypeId} {l : List α} (hf : ∀ x, (f x).length = s) (h : BL w g t (l.flatMap f)) {k : Nat} (hk : k < l.length) : At w g (k * s) (f l[k]) := by
 rw [flat_split (f := f) l k hk] at h
 exact BL.at_ h (by rw [flat_length hf, List.length_take, Nat.min_eq_left (by omega)])
end

theorem madeCells_flat (z : List Value) (n : Nat) (hz : z ≠ []) : madeCells z.toArray (n * z.length) = ((List.replicate n ()).flatMap fun _ => z).toArray := by
 have hl : ((List.replicate n ()).flatMap fun _ => z).length = n * z.length := by rw [flat_length (s := z.length) (fun _ => rfl), List.length_replicate]
 have hz0 : 0 < z.length := List.length_pos_iff.2 hz
 apply Array.ext'
 rw [madeCells, Array.toList_map, Array.toList_range]
 apply List.ext_getElem?
 intro i
 by_cases hi : i < n * z.length
 ·
  rw [List.getElem?_map, List.getElem?_range hi]
  have hk : i / z.length < n := Nat.div_lt_of_lt_mul (by rw [Nat.mul_comm]; exact hi)
  have hs := flat_split (f := fun _ : Unit => z) (List.replicate n ()) (i / z.length) (by rw [List.length_replicate]; exact hk)
  have h1 : (((List.replicate n ()).take (i / z.length)).flatMap fun _ => z).length = i / z.length * z.length := by rw [flat_length (s := z.length) (fun _ => rfl), List.length_take, List.length_replicate, Nat.min_eq_left (by omega)]
  have hdm := Nat.div_add_mod i z.length
  have hm := Nat.mod_lt i hz0
  rw [Nat.mul_comm] at hdm
  rw [List.toList_toArray, hs, List.append_assoc, List.getElem?_append_right (by omega), h1, List.getElem?_append_left (by omega), show i - i / z.length * z.length = i % z.length by omega]
  simp [hm]
 ·
  rw [List.getElem?_eq_none (by simp; omega), List.getElem?_eq_none (by rw [List.toList_toArray, hl]; omega)]

/-- make([]T, k, n), T of many cells. -/
theorem wpList_mkv {P : Program} (w : World) {ops : Array Oper} {rest : List Oper} {o : Oper} {a : Act} {Q : Exit → Act → World → Prop} (hg : o.guard = none) (t te : TypeId) (x y : Operand) (hop : o.op = .makeSlice t x y) (z : List Value) (hz : z ≠ []) (bytes : Nat) (ht : P.underlying t = some (.slice te))
  (hinfo : (P.info? te).map (fun i => (i.zero, i.size, i.bytes)) = some (some (.agg z.toArray), z.length, bytes)) (k n : Nat) (zx zy : Int) (hx : a.eval x = .int .i64 zx) (hy : a.eval y = .int .i64 zy) (hzx : zx = (k : Int)) (hzy : zy = (n : Int)) (hk : k ≤ n) (hb : bytes * n ≤ 281474976710656) (hn : n ≤ 9223372036854775807)
  (h : ∀ w', BL w' w.heap.size te ((List.replicate n ()).flatMap fun _ => z) → Below w.heap.size w w' → w'.heap.size = w.heap.size + 1 → wpList P ops Q rest (a.put o.dst (.slice (some ⟨w.heap.size, 0, none⟩) k n)) w') : wpList P ops Q (o :: rest) a w :=
 wpList_plain hg fun K hK => by
  subst hzx hzy
  obtain ⟨i, hi, hzz, hs, hby⟩ := info_parts hinfo
  have hbb : (i.bytes : Int) * (n : Int) ≤ 281474976710656 := by rw [hby, ← Int.natCast_mul]; exact Int.ofNat_le.2 hb
  have hr := run_make (P := P) w t te i _ ht hi hzz .i64 .i64 (k : Int) (n : Int) (by omega) (by omega) hbb (by omega)
  rw [hs] at hr
  simp only [Int.toNat_natCast, Value.cells, madeCells_flat z n hz] at hr
  unfold Oper.wp execOp
  simp only [hop, hx, hy]
  simp [hr, Result.andThen]
  exact hK _ _ (h _ (BL.new w te _) ((Below.refl _ _).alloc (Nat.le_refl _) _) (by simp))

section
variable {P : Program} {w : World} {o : Oper} {a : Act} {Q : Exit → Act → World → Prop} {K : Act → World → Prop}
theorem wp_storev (t : TypeId) (x y : Operand) (hop : o.op = .store t x y) (n : Nat) (ht : Agg P t n = true) (g p : Nat) (te : TypeId) (l vs : List Value) (hx : a.eval x = .pointer (some ⟨g, p, none⟩)) (hy : a.eval y = .agg vs.toArray)
  (hb : BL w g te l) (hn : vs.length = n) (h1 : ∀ v ∈ vs, v.oneCell' = true) (ho : p + n ≤ l.length)
  (h : ∀ w', BL w' g te (splice l p vs) → Kp (· = g) w w' → w'.heap.size = w.heap.size → K (a.put o.dst undef) w') : o.wp P a w K Q := by
 obtain ⟨w', hr, h2, h3, h4⟩ := run_storeAt w ht hb hn h1 ho
 unfold Oper.wp execOp
 simp only [hop, hx, hy]
 simp [hr, Result.andThen]
 exact h w' h2 h3 h4
end
theorem Tk.cells_length (t : Tk) : t.cells.length = 4 := rfl
theorem Tk.one (t : Tk) : ∀ v ∈ t.cells, v.oneCell' = true := by
 intro v hv
 simp only [Tk.cells, List.mem_cons, List.not_mem_nil, or_false] at hv
 rcases hv with rfl | rfl | rfl | rfl <;> rfl
/-- A slice of tokens. -/
def TkS (w : World) (A : Option Addr) (n c : Nat) (l : List Tk) : Prop :=
 l.length = n ∧ n ≤ c ∧ n * 64 ≤ lim ∧ ∀ k, (h : k < l.length) → ∃ g o, A = some ⟨g, o, none⟩ ∧ At w g (o + k * 4) l[k].cells
theorem TkS.kept {w w' : World} {A : Option Addr} {n c : Nat} {l : List Tk} (h : TkS w A n c l) (hb : Below w.heap.size w w') : TkS w' A n c l :=
 ⟨h.1, h.2.1, h.2.2.1, fun k hk => let ⟨g, o, e, hc⟩ := h.2.2.2 k hk; ⟨g, o, e, hc.kept hb⟩⟩
theorem TkS.of_blk {w : World} {g : Nat} {t : TypeId} {l : List Tk} (h : BL w g t (l.flatMap Tk.cells)) {n : Nat} (hn : l.length = n) (hl : n * 64 ≤ lim) : TkS w (some ⟨g, 0, none⟩) n n l :=
 ⟨hn, Nat.le_refl _, hl, fun k hk => ⟨g, 0, rfl, by rw [Nat.zero_add]; exact BL.elem Tk.cells_length h hk⟩⟩
end Go.Proofs.YtheijpjfpaghfaaGreatDoor
/- Contract of ref03.constants. -/
namespace Go.Proofs.YtheijpjfpaghfaaGreatDoor
open Go Go.RowKit Gf Sha

end Go.Proofs.YtheijpjfpaghfaaGreatDoor
/- Contract of ref03.Block. -/
namespace Go.Proofs.YtheijpjfpaghfaaGreatDoor
open Go Go.RowKit Gf Sha

theorem not_r' (x : UInt32) : bits .xor .u32 (if IntKind.u32.signed = true then -1 else IntKind.u32.max) (wv x) = wv (~~~ x) := not_w x
attribute [local go_sem] not_r' shl24' shl16' shl8' Sha.add_wrap Sha.add_w Sha.xor_w Sha.and_w Sha.or_w Sha.not_w conv_w shl24 shl16 shl8 shr10 shr3
end Go.Proofs.YtheijpjfpaghfaaGreatDoor
/- Contract of ref03.Pad. -/
namespace Go.Proofs.YtheijpjfpaghfaaGreatDoor
open Go Go.RowKit Gf Sha

end Go.Proofs.YtheijpjfpaghfaaGreatDoor
