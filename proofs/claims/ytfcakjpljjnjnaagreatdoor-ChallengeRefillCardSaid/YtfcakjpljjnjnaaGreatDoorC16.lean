/- Several texts in one: Mt1, Mt2, Tok, Ch2. -/
import Derived.Test.YtfcakjpljjnjnaaGreatDoorC15
import Derived.Test.YtfcakjpljjnjnaaGreatDoorC6
import Derived.Test.YtfcakjpljjnjnaaGreatDoorC10
import Derived.Test.YtfcakjpljjnjnaaGreatDoorC8
/- merkle.Blocks and the reference's: the leaves of the blocks of data. -/
namespace Go.Proofs.YtfcakjpljjnjnaaGreatDoor
open Go Go.RowKit Gf Sha

/-- Block i of data. -/
def blk (x : List UInt8) (size i : Nat) : List UInt8 := (x.drop (i * size)).take size
def lvsK (x : List UInt8) (size k : Nat) : List (List UInt8) := (List.range k).map fun i => mleaf (blk x size i)
/-- The number of blocks. -/
def nb (n size : Nat) : Nat := (n - 1) / size + 1
theorem nb_lt {n size k : Nat} (h1 : 1 ≤ n) (hs : 1 ≤ size) : k < nb n size ↔ k * size < n := by
 unfold nb
 rw [Nat.lt_succ_iff, Nat.le_div_iff_mul_le (by omega)]
 omega
theorem lvsK_length (x : List UInt8) (size k : Nat) : (lvsK x size k).length = k := by simp [lvsK]
theorem lvsK_succ (x : List UInt8) (size k : Nat) : lvsK x size (k + 1) = lvsK x size k ++ [mleaf (blk x size k)] := by
 rw [lvsK, List.range_succ, List.map_append]; rfl
theorem lvsK_lv (x : List UInt8) (size q : Nat) : Lv (lvsK x size q) := by
 intro y hy
 simp only [lvsK, List.mem_map] at hy
 obtain ⟨i, _, rfl⟩ := hy
 exact mleaf_length _
theorem take_min_drop {x : List UInt8} {a size m mm : Nat} (hm : (x.drop a).length = m) (h : mm = min size m) : (x.drop a).take mm = (x.drop a).take size := by
 rw [h, List.take_eq_take_iff]; omega
theorem drop_min_drop {x : List UInt8} {k size m mm : Nat} (hm : (x.drop (k * size)).length = m) (h : mm = min size m) : (x.drop (k * size)).drop mm = x.drop ((k + 1) * size) := by
 rw [List.drop_drop]
 rw [List.length_drop] at hm
 rw [Nat.succ_mul]
 by_cases h2 : size ≤ m
 ·
  rw [h, Nat.min_eq_left h2]
 ·
  rw [List.drop_eq_nil_of_le (by omega), List.drop_eq_nil_of_le (by omega)]
theorem bsl0S (w : World) : (Instr.buildSlice 46 0 #[]).run Tryz.prog w = .ok (.slice (some ⟨w.heap.size, 0, none⟩) 0 0) (w.alloc (.cells ([] : List Value).toArray 9)) := by kernel_rfl

set_option maxRecDepth 100000 in
set_option maxHeartbeats 4000000 in
theorem blocks_any (A : Option Addr) (n c size : Nat) (x : List UInt8) (w : World) (h : BS w A n c x) (hT : Tabs w) (h1 : 1 ≤ n) (hn : n ≤ 1000000) (hs : 1 ≤ size) (hs2 : size < 9223372036854775808) :
  Calls Tryz.prog 95 #[.slice A n c, .int .i64 (size : Int)] w fun e w' => ∃ v, e = .returned (.tuple #[v, .int .i64 0]) ∧ OwnS w' w.heap.size v (nb n size) (lvsK x size (nb n size)) ∧ Below w.heap.size w w' := by
 have HLX := Lib.hid h.1
 have HT := Lib.hid hT
 have H0 : Hid (BS w A n c (x.drop (0 * size))) := Lib.hid (by rw [Nat.zero_mul, List.drop_zero]; exact h)
 have HNB : Hid (∀ k, k < nb n size ↔ k * size < n) := Lib.hid (fun k => nb_lt h1 hs)
 obtain ⟨q, hq⟩ : ∃ q, q = nb n size := ⟨_, rfl⟩
 rw [← hq] at HNB ⊢
 have HQ : Hid (q ≤ 1000000) := Lib.hid (by rw [hq, nb]; have := Nat.div_le_self (n - 1) size; omega)
 have HN6 := Lib.hid hn
 have d1 : decide ((1048576 : Int) < (n : Int)) = false := decide_eq_false (by omega)
 clear h hT hq hn
 go_enter Tryz.func95, Tryz.ntmps95
 go_wp2_with fail
 go_loopw [0, 6] (fun xv v wr => ∃ (k m : Nat) (A' : Option Addr) (c' : Nat), xv = .slice A' m c' ∧ Hid (m ≤ 1000000) ∧ Hid (BS w A' m c' (x.drop (k * size))) ∧ Hid (m = n - k * size) ∧ Hid (k ≤ q) ∧ Hid (OwnS wr w.heap.size v k (lvsK x size k)) ∧ Hid (Below w.heap.size w wr)) (fun xv _ _ => match xv with | .slice _ m _ => m | _ => 0)
 case atStart => exact ⟨0, n, A, c, rfl, HN6, H0, Lib.hid (by rw [Nat.zero_mul]; rfl), Lib.hid (Nat.zero_le _), Lib.hid ⟨RW.nil _ _ _, fun b hb => by cases hb⟩, Lib.hid (Below.refl _ _)⟩
 case round =>
  obtain ⟨k, m, A', c', rfl, hm6, hbs, hmk, hkq, ho, hb⟩ := hrel
  obtain ⟨wx, hwx⟩ : ∃ x, x = wr := ⟨_, rfl⟩
  rw [← hwx] at ho hb ⊢
  clear hwx
  by_cases hlt : 0 < m
  ·
   obtain ⟨mm, hmm⟩ : ∃ mm, mm = min size m := ⟨_, rfl⟩
   have emin : min (size : Int) (m : Int) = (mm : Int) := by omega
   have hmm1 : mm ≤ m := by omega
   have hmc : (mm : Int) ≤ (c' : Int) := by have := hbs.out.2.1; omega
   have hmc2 : mm ≤ c' := by omega
   have HM6 : Hid (m - mm ≤ 1000000 ∧ mm ≤ 1000000) := Lib.hid (by have := hm6.out; omega)
   have HMP : Hid (0 < mm) := Lib.hid (by omega)
   have hk : k < q := (HNB.out k).2 (by have := hmk.out; omega)
   have HTK : Hid (BS wx A' mm c' (blk x size k)) := Lib.hid (by
    have := (hbs.out.kept hb.out).pre hmm1
    rw [take_min_drop hbs.out.1 hmm] at this
    exact this)
   have HDR : Hid (BS w (cutA A' c' mm) (m - mm) (c' - mm) (x.drop ((k + 1) * size))) := Lib.hid (by
    have := hbs.out.cut hmm1
    rw [drop_min_drop hbs.out.1 hmm] at this
    exact this)
   have HMK : Hid (m - mm = n - (k + 1) * size) := Lib.hid (by have := hmk.out; rw [Nat.succ_mul]; omega)
   have HKQ : Hid (k + 1 ≤ q) := Lib.hid hk
   have HLS := Lib.hid (lvsK_succ x size k)
   obtain ⟨lf, hlf⟩ : ∃ lf, lf = mleaf (blk x size k) := ⟨_, rfl⟩
   rw [← hlf] at HLS
   have HLF := Lib.hid hlf.symm
   clear hmm hk hlf
   go_wp2_with (first
    | (go_at_call 134; refine (leaf_any A' mm c' _ wx HTK.out (HT.out.kept hb.out)).mono ?_; rintro e w3 ⟨rfl, b1⟩; rw [HLF.out]; have HX3 := Lib.hid b1; clear b1)
    | ((with_reducible show OpW 25); refine wpList_bslice _ rfl 46 9 1 _ rfl #[(0, .string (strB lf))] (by rw [List.map_toArray]; rfl) [.string (strB lf)] (bslS lf _) ?_; intro w5 a1 a2 a3; have HG5 := Lib.hid a1; have HX5 := Lib.hid (below_then HX3.out a2); clear a1 a2 a3)
    | ((with_reducible show OpW 26); obtain ⟨iS, i1, i2, i3, i4⟩ := info_some infoStr; refine wpList_appRW _ rfl (.tmp 20) (.tmp 25) 46 9 1 iS _ rfl Tryz.underlying46 i1 i2 i3 rfl _ k _ rfl (ho.out.1.kept HX5.out) w3.heap.size [.string (strB lf)] rfl HG5.out rfl (by intro v hv; simp only [List.mem_singleton] at hv; subst hv; rfl) (by rw [i4]; have := HKQ.out; have := HQ.out; omega) (by have := HKQ.out; have := HQ.out; omega) ?_; intro v' w6 a1; have HR6 := Lib.hid a1; clear a1 i1 i2 i3 i4)
    | ((with_reducible show OpW 29); refine wpList_cut _ rfl (.tmp 27) _ 39 5 rfl Tryz.underlying39 (by kernel_rfl) A' m c' mm _ rfl rfl rfl hmm1 ?_))
   have HB5 : Hid (Below w.heap.size w w5) := Lib.hid (below_thenB hb.out hb.out.size HX5.out)
   have HB6 : Hid (Below w.heap.size w w6) := Lib.hid (((Kp.of_below (S := fun _ => False) HB5.out).after HR6.out.kp (fun i hi e => by have := ho.out.2 i e; omega)).below (Nat.le_refl _) (fun _ h => h.elim))
   have HO6 : Hid (OwnS w6 w.heap.size v' (k + 1) (lvsK x size (k + 1))) := Lib.hid ⟨by
     have := HR6.out.row
     rw [HLS.out, List.map_append]
     exact this, fun b hb' => (HR6.out.own b hb').elim (fun h1 => ho.out.2 b h1) (fun h1 => Nat.le_trans HB5.out.size h1)⟩
   go_roundw
   case rel => exact ⟨k + 1, m - mm, _, _, rfl, Lib.hid HM6.out.1, HDR, HMK, HKQ, HO6, HB6⟩
   case measure => show m - mm < m; have := HMP.out; omega
  ·
   obtain rfl : m = 0 := by omega
   have HKE : Hid (k = q) := Lib.hid (by
    have h1 := HNB.out k
    have h2 := hkq.out
    have h3 := hmk.out
    by_cases h4 : k < q
    ·
     have := h1.1 h4; omega
    ·
     omega)
   go_wp2_with fail
   go_ret2
   refine ⟨_, rfl, ?_, hb.out⟩
   have := ho.out
   rw [HKE.out] at this
   exact this
set_option maxRecDepth 100000 in
set_option maxHeartbeats 4000000 in
theorem rblocks_any (A : Option Addr) (n c size : Nat) (x : List UInt8) (w : World) (h : BS w A n c x) (hT : Tabs w) (h1 : 1 ≤ n) (hn : n ≤ 1000000) (hs : 1 ≤ size) (hs2 : size < 9223372036854775808) :
  Calls Tryz.prog 146 #[.slice A n c, .int .i64 (size : Int)] w fun e w' => ∃ v, e = .returned (.tuple #[v, .int .i64 0]) ∧ OwnS w' w.heap.size v (nb n size) (lvsK x size (nb n size)) ∧ Below w.heap.size w w' := by
 have HLX := Lib.hid h.1
 have HT := Lib.hid hT
 have H0 : Hid (BS w A n c (x.drop (0 * size))) := Lib.hid (by rw [Nat.zero_mul, List.drop_zero]; exact h)
 have HNB : Hid (∀ k, k < nb n size ↔ k * size < n) := Lib.hid (fun k => nb_lt h1 hs)
 obtain ⟨q, hq⟩ : ∃ q, q = nb n size := ⟨_, rfl⟩
 rw [← hq] at HNB ⊢
 have HQ : Hid (q ≤ 1000000) := Lib.hid (by rw [hq, nb]; have := Nat.div_le_self (n - 1) size; omega)
 have HN6 := Lib.hid hn
 have d1 : decide ((1048576 : Int) < (n : Int)) = false := decide_eq_false (by omega)
 clear h hT hq hn
 go_enter Tryz.func146, Tryz.ntmps146
 go_wp2_with ((with_reducible show OpW 13); refine wpList_bslice _ rfl 46 9 0 _ rfl #[] (by rw [List.map_toArray]; rfl) [] (bsl0S _) ?_; intro w1 a1 a2 a3; have HG1 := Lib.hid a1; have HB1 := Lib.hid a2; clear a1 a2 a3)
 go_loopw [0, 6] (fun xv v wr => ∃ (k m : Nat) (A' : Option Addr) (c' : Nat), xv = .slice A' m c' ∧ Hid (m ≤ 1000000) ∧ Hid (BS w A' m c' (x.drop (k * size))) ∧ Hid (m = n - k * size) ∧ Hid (k ≤ q) ∧ Hid (OwnS wr w.heap.size v k (lvsK x size k)) ∧ Hid (Below w.heap.size w wr)) (fun xv _ _ => match xv with | .slice _ m _ => m | _ => 0)
 case atStart => exact ⟨0, n, A, c, rfl, HN6, H0, Lib.hid (by rw [Nat.zero_mul]; rfl), Lib.hid (Nat.zero_le _), Lib.hid ⟨RW.of_blk HG1.out rfl (by decide), fun b hb => by cases hb; exact Nat.le_refl _⟩, HB1⟩
 case round =>
  obtain ⟨k, m, A', c', rfl, hm6, hbs, hmk, hkq, ho, hb⟩ := hrel
  obtain ⟨wx, hwx⟩ : ∃ x, x = wr := ⟨_, rfl⟩
  rw [← hwx] at ho hb ⊢
  clear hwx
  by_cases hlt : 0 < m
  ·
   obtain ⟨mm, hmm⟩ : ∃ mm, mm = min size m := ⟨_, rfl⟩
   have emin : min (size : Int) (m : Int) = (mm : Int) := by omega
   have hmm1 : mm ≤ m := by omega
   have hmc : (mm : Int) ≤ (c' : Int) := by have := hbs.out.2.1; omega
   have hmc2 : mm ≤ c' := by omega
   have HM6 : Hid (m - mm ≤ 1000000 ∧ mm ≤ 1000000) := Lib.hid (by have := hm6.out; omega)
   have HMP : Hid (0 < mm) := Lib.hid (by omega)
   have hk : k < q := (HNB.out k).2 (by have := hmk.out; omega)
   have HTK : Hid (BS wx A' mm c' (blk x size k)) := Lib.hid (by
    have := (hbs.out.kept hb.out).pre hmm1
    rw [take_min_drop hbs.out.1 hmm] at this
    exact this)
   have HDR : Hid (BS w (cutA A' c' mm) (m - mm) (c' - mm) (x.drop ((k + 1) * size))) := Lib.hid (by
    have := hbs.out.cut hmm1
    rw [drop_min_drop hbs.out.1 hmm] at this
    exact this)
   have HMK : Hid (m - mm = n - (k + 1) * size) := Lib.hid (by have := hmk.out; rw [Nat.succ_mul]; omega)
   have HKQ : Hid (k + 1 ≤ q) := Lib.hid hk
   have HLS := Lib.hid (lvsK_succ x size k)
   obtain ⟨lf, hlf⟩ : ∃ lf, lf = mleaf (blk x size k) := ⟨_, rfl⟩
   rw [← hlf] at HLS
   have HLF := Lib.hid hlf.symm
   clear hmm hk hlf
   go_wp2_with (first
    | (go_at_call 158; refine (rleaf_any A' mm c' _ wx HTK.out HM6.out.2).mono ?_; rintro e w3 ⟨rfl, b1⟩; rw [HLF.out]; have HX3 := Lib.hid b1; clear b1)
    | ((with_reducible show OpW 26); refine wpList_bslice _ rfl 46 9 1 _ rfl #[(0, .string (strB lf))] (by rw [List.map_toArray]; rfl) [.string (strB lf)] (bslS lf _) ?_; intro w5 a1 a2 a3; have HG5 := Lib.hid a1; have HX5 := Lib.hid (below_then HX3.out a2); clear a1 a2 a3)
    | ((with_reducible show OpW 27); obtain ⟨iS, i1, i2, i3, i4⟩ := info_some infoStr; refine wpList_appRW _ rfl (.tmp 21) (.tmp 26) 46 9 1 iS _ rfl Tryz.underlying46 i1 i2 i3 rfl _ k _ rfl (ho.out.1.kept HX5.out) w3.heap.size [.string (strB lf)] rfl HG5.out rfl (by intro v hv; simp only [List.mem_singleton] at hv; subst hv; rfl) (by rw [i4]; have := HKQ.out; have := HQ.out; omega) (by have := HKQ.out; have := HQ.out; omega) ?_; intro v' w6 a1; have HR6 := Lib.hid a1; clear a1 i1 i2 i3 i4)
    | ((with_reducible show OpW 30); refine wpList_cut _ rfl (.tmp 28) _ 39 5 rfl Tryz.underlying39 (by kernel_rfl) A' m c' mm _ rfl rfl rfl hmm1 ?_))
   have HB5 : Hid (Below w.heap.size w w5) := Lib.hid (below_thenB hb.out hb.out.size HX5.out)
   have HB6 : Hid (Below w.heap.size w w6) := Lib.hid (((Kp.of_below (S := fun _ => False) HB5.out).after HR6.out.kp (fun i hi e => by have := ho.out.2 i e; omega)).below (Nat.le_refl _) (fun _ h => h.elim))
   have HO6 : Hid (OwnS w6 w.heap.size v' (k + 1) (lvsK x size (k + 1))) := Lib.hid ⟨by
     have := HR6.out.row
     rw [HLS.out, List.map_append]
     exact this, fun b hb' => (HR6.out.own b hb').elim (fun h1 => ho.out.2 b h1) (fun h1 => Nat.le_trans HB5.out.size h1)⟩
   go_roundw
   case rel => exact ⟨k + 1, m - mm, _, _, rfl, Lib.hid HM6.out.1, HDR, HMK, HKQ, HO6, HB6⟩
   case measure => show m - mm < m; have := HMP.out; omega
  ·
   obtain rfl : m = 0 := by omega
   have HKE : Hid (k = q) := Lib.hid (by
    have h1 := HNB.out k
    have h2 := hkq.out
    have h3 := hmk.out
    by_cases h4 : k < q
    ·
     have := h1.1 h4; omega
    ·
     omega)
   go_wp2_with fail
   go_ret2
   refine ⟨_, rfl, ?_, hb.out⟩
   have := ho.out
   rw [HKE.out] at this
   exact this
end Go.Proofs.YtfcakjpljjnjnaaGreatDoor
/- The levels of a growing tree: plainly, and in memory. -/
namespace Go.Proofs.YtfcakjpljjnjnaaGreatDoor
open Go Go.RowKit Gf Sha

/-- The number of levels. -/
def nl (n : Nat) : Nat := if n = 0 then 1 else Lib.bitLen n
end Go.Proofs.YtfcakjpljjnjnaaGreatDoor
/- Contract of challenge.Tokens where its arguments are valid. -/
namespace Go.Proofs.YtfcakjpljjnjnaaGreatDoor
open Go Go.RowKit Gf Sha

/-- The token number n. -/
def tokN (K : Ky) (s : List UInt8) (i : Nat) (d : List UInt8) (n : Nat) : Tk := ⟨s, i, nonceL K s i n, tagL (nonceL K s i n) d⟩
def tokL (K : Ky) (s : List UInt8) (i : Nat) (d : List UInt8) (f c : Nat) : List Tk := (List.range c).map fun k => tokN K s i d (f + k)
def Tk.zero : Tk := ⟨[], 0, [], []⟩
/-- The first k are made. -/
def tokP (K : Ky) (s : List UInt8) (i : Nat) (d : List UInt8) (f c k : Nat) : List Tk := (List.range k).map (fun k => tokN K s i d (f + k)) ++ List.replicate (c - k) Tk.zero
theorem tokP_zero (K : Ky) (s : List UInt8) (i : Nat) (d : List UInt8) (f c : Nat) : tokP K s i d f c 0 = List.replicate c Tk.zero := by simp [tokP]
theorem tokP_all (K : Ky) (s : List UInt8) (i : Nat) (d : List UInt8) (f c : Nat) : tokP K s i d f c c = tokL K s i d f c := by simp [tokP, tokL]
theorem tokP_length (K : Ky) (s : List UInt8) (i : Nat) (d : List UInt8) (f c k : Nat) (h : k ≤ c) : (tokP K s i d f c k).length = c := by simp [tokP]; omega
theorem tokP_set (K : Ky) (s : List UInt8) (i : Nat) (d : List UInt8) (f c k : Nat) (h : k < c) : (tokP K s i d f c k).set k (tokN K s i d (f + k)) = tokP K s i d f c (k + 1) := by
 have e : c - k = (c - (k + 1)) + 1 := by omega
 unfold tokP
 rw [List.set_append, if_neg (by simp), List.length_map, List.length_range, Nat.sub_self, e, List.replicate_succ, List.set_cons_zero, List.range_succ, List.map_append, List.append_assoc]
 rfl
theorem zeroRow (c : Nat) : ((List.replicate c ()).flatMap fun _ => Tk.zero.cells) = (List.replicate c Tk.zero).flatMap Tk.cells := by
 induction c with
 | zero => rfl
 | succ c ih => rw [List.replicate_succ, List.replicate_succ, List.flatMap_cons, List.flatMap_cons, ih]
theorem infoTok : (Tryz.prog.info? 60).map (fun i => (i.zero, i.size, i.bytes)) = some (some (.agg Tk.zero.cells.toArray), Tk.zero.cells.length, 56) := by kernel_rfl
/-- What Tokens leaves. -/
def TokRet (l : List Tk) (w : World) (e : Ending) (w' : World) : Prop :=
 ∃ g n, e = .returned (.tuple #[.slice (some ⟨g, 0, none⟩) n n, .int .i64 0]) ∧ l.length = n ∧ w.heap.size ≤ g ∧ BL w' g 60 (l.flatMap Tk.cells) ∧ Below w.heap.size w w'

set_option maxRecDepth 100000 in
set_option maxHeartbeats 4000000 in
theorem tokens_yes (Kx : Ky) (s d : List UInt8) (i n cp f c : Nat) (A : Option Addr) (w : World) (hd : BS w A n cp d) (hT : Tabs w) (hK : okK Kx = true) (hI : idB s i = true) (hD : dataB n = true) (hR : rangeB f c = true) :
  Calls Tryz.prog 14 #[Kx.val, .agg #[.string (strB s), .int .i64 (i : Int)], .slice A n cp, .int .i64 (f : Int), .int .i64 (c : Int)] w (TokRet (tokL Kx s i d f c) w) := by
 have HD := Lib.hid hd
 have HT := Lib.hid hT
 have HK := Lib.hid hK
 have HI := Lib.hid hI
 have HDB := Lib.hid hD
 have HR := Lib.hid hR
 have hI2 : s.length = 32 ∧ i < 16 := by
  simp only [idB, Bool.and_eq_true, decide_eq_true_eq] at hI
  exact ⟨hI.1, by omega⟩
 have hR2 : (f : Int) ≤ 1099511627776 ∧ (c : Int) ≤ 256 ∧ (f : Int) + c ≤ 1099511627776 := by
  simp only [rangeB, Bool.and_eq_true, decide_eq_true_eq] at hR
  exact ⟨hR.2.1, hR.2.2.2.1, hR.2.2.2.2⟩
 have HS32 := Lib.hid hI2.1
 have HI16 := Lib.hid hI2.2
 obtain ⟨hf1, hc1, hfc⟩ := hR2
 clear hd hT hK hI hD hR hI2
 go_enter Tryz.func14, Tryz.ntmps14
 go_wp2_with (first
  | ((with_reducible show OpW 5); refine wpList_box _ rfl 23 (.tmp 0) rfl Kx.cells rfl ?_; intro w1 a1 a2 a3; have HG1 := Lib.hid a1; have HB1 := Lib.hid a2; have HZ1 := Lib.hid a3; clear a1 a2 a3)
  | ((with_reducible show OpW 6); refine wpList_box _ rfl 31 (.tmp 1) rfl [.string (strB s), .int .i64 (i : Int)] rfl ?_; intro w2 a1 a2 a3; have HP2 := Lib.hid a1; have HB2 := Lib.hid (below_then HB1.out (a2.mono (Nat.le_refl _))); have HG2 := Lib.hid (HG1.out.kept a2); clear a1 a2 a3)
  | ((with_reducible show OpW 15); refine wpList_loadv _ rfl 23 (.tmp 5) rfl 5 (by kernel_rfl) w.heap.size 0 Kx.cells rfl (BL.all HG2.out) rfl ?_)
  | (go_at_call 22; refine (areKeys_any Kx w2).mono ?_; rintro e w3 ⟨rfl, b1⟩; rw [HK.out]; have HB3 := Lib.hid (below_thenB HB2.out HB2.out.size b1); have HG3 := Lib.hid (HG2.out.kept b1); have HP3 := Lib.hid (HP2.out.kept b1); have q0 := HP3.out.get (j := 0) rfl; have q1 := HP3.out.get (j := 1) rfl; clear b1)
  | (go_at_call 36; refine (isID_any s (i : Int) w3).mono ?_; rintro e w4 ⟨rfl, b1⟩; rw [HI.out]; have HB4 := Lib.hid (below_thenB HB3.out HB3.out.size b1); have HG4 := Lib.hid (HG3.out.kept b1); have HP4 := Lib.hid (HP3.out.kept b1); clear b1 q0 q1)
  | (go_at_call 37; refine (isData_any A n cp w4).mono ?_; rintro e w' ⟨rfl, rfl⟩; rw [HDB.out])
  | (go_at_call 23; refine (isRange_any (f : Int) (c : Int) w4).mono ?_; rintro e w' ⟨rfl, rfl⟩; rw [HR.out])
  | ((with_reducible show OpW 35); refine wpList_mkv _ rfl 33 60 _ _ rfl Tk.zero.cells (by decide) 56 Tryz.underlying33 infoTok c c _ _ rfl rfl rfl rfl (Nat.le_refl _) (by omega) (by omega) ?_; intro w5 a1 a2 a3; rw [zeroRow, ← tokP_zero Kx s i d f c] at a1; have HL5 := Lib.hid a1; have HX5 := Lib.hid a2; have HZ5 := Lib.hid a3; clear a1 a2 a3))
 have HX5' : Hid (Below w4.heap.size w4 w5) := Lib.hid HX5.out
 have hcl : 0 ≤ (c : Int) := by omega
 go_loopw [38] (fun iv wr => ∃ k : Nat, k ≤ c ∧ iv = .int .i64 (k : Int) ∧ Hid (BL wr w4.heap.size 60 ((tokP Kx s i d f c k).flatMap Tk.cells)) ∧ Hid (Below w4.heap.size w4 wr)) (fun iv _ => c - (intOf iv).toNat)
 case atStart => exact ⟨0, by omega, rfl, HL5, HX5'⟩
 case round =>
  obtain ⟨k, hk, rfl, hl, hx⟩ := hrel
  obtain ⟨wx, hwx⟩ : ∃ x, x = wr := ⟨_, rfl⟩
  rw [← hwx] at hl hx ⊢
  clear hwx
  by_cases hlt : k < c
  ·
   have HGx := Lib.hid (HG4.out.kept hx.out)
   have HPx := Lib.hid (HP4.out.kept hx.out)
   have HTx := Lib.hid ((HT.out.kept HB4.out).kept hx.out)
   have HDx := Lib.hid ((HD.out.kept HB4.out).kept hx.out)
   have hfk : (f : Int) + (k : Int) ≤ 1099511627776 := by omega
   obtain ⟨fk, hfk2⟩ : ∃ fk, fk = f + k := ⟨_, rfl⟩
   have HFK : Hid ((f : Int) + (k : Int) = ((fk : Nat) : Int)) := Lib.hid (by omega)
   have HFN : Hid (fk ≤ 1099511627776) := Lib.hid (by omega)
   have HFE := Lib.hid hfk2
   clear hfk2
   go_wp2_with (first
    | ((with_reducible show OpW 41); refine wpList_loadv _ rfl 23 (.tmp 5) rfl 5 (by kernel_rfl) w.heap.size 0 Kx.cells rfl (BL.all HGx.out) rfl ?_)
    | ((with_reducible show OpW 42); refine wpList_loadv _ rfl 31 (.tmp 6) rfl 2 (by kernel_rfl) w1.heap.size 0 [.string (strB s), .int .i64 (i : Int)] rfl (BL.all HPx.out) rfl ?_)
    | (go_at_call 38; rw [HFK.out]; refine (nonce_any Kx s i fk wx HTx.out HK.out HS32.out HI16.out HFN.out).mono ?_; rintro e w6 ⟨rfl, b1⟩; have HX6 := Lib.hid b1; clear b1))
   have HX6' := Lib.hid (below_then hx.out (HX6.out.mono (Nat.le_refl _)))
   have HXw : Hid (Below w4.heap.size w4 w6) := Lib.hid (hx.out.trans (HX6.out.mono (by have := hx.out.size; omega)))
   have HQ : Hid (∀ w', Below w4.heap.size w4 w' → w'.cell? ⟨w1.heap.size, 0, none⟩ = some (.string (strB s)) ∧ w'.cell? ⟨w1.heap.size, 1, none⟩ = some (.int .i64 (i : Int))) := Lib.hid (fun w' hb => ⟨(HP4.out.kept hb).get (j := 0) rfl, (HP4.out.kept hb).get (j := 1) rfl⟩)
   have HL6 := Lib.hid (hl.out.kept HX6.out)
   have HTL : Hid (((tokP Kx s i d f c k).flatMap Tk.cells).length = c * 4) := Lib.hid (by rw [flat_length Tk.cells_length, tokP_length _ _ _ _ _ _ _ (by omega)])
   have HST : Hid (splice ((tokP Kx s i d f c k).flatMap Tk.cells) (k * 4) (tokN Kx s i d fk).cells = (tokP Kx s i d f c (k + 1)).flatMap Tk.cells) := Lib.hid (by
    rw [flat_splice Tk.cells_length _ k (by rw [tokP_length _ _ _ _ _ _ _ (by omega)]; exact hlt), HFE.out, tokP_set _ _ _ _ _ _ _ hlt])
   refine Text.wp_region_text (fun w' => w'.cell? ⟨w1.heap.size, 0, none⟩ = some (.string (strB s)) ∧ w'.cell? ⟨w1.heap.size, 1, none⟩ = some (.int .i64 (i : Int))) [(0, 4), (1, 4), (3, 4), (4, 4), (5, 4), (2, 0), (6, 2), (7, 4), (8, 4), (9, 2)] (by kernel_rfl) (by kernel_rfl) (fun _ _ _ _ _ h => h) (HQ.out _ HXw.out.drew) ?_
   iterate 5 (refine Text.purek rfl rfl (fun K hK => ⟨_, fun w' => by go_simp <;> rfl, ?_⟩); go_simp; refine hK _ ?_; clear hK K)
   (refine Text.heldk rfl rfl (fun K hK => ⟨_, fun w' hw' => by go_simp <;> rfl, ?_⟩); go_simp; refine hK _ ?_; clear hK K)
   refine Text.eff rfl rfl (fun K hK => ?_)
   go_simp
   refine (tag_any A n cp (nonceL Kx s i fk) d w6.drew ((HDx.out.kept HX6.out).drew) ((HTx.out.kept HX6.out).drew) (by rw [nonceL_length]; decide)).mono ?_
   rintro e w7 ⟨rfl, b7⟩
   have HX7 : Hid (Below w4.heap.size w4 w7) := Lib.hid (HXw.out.drew.trans (b7.mono (by have := HXw.out.size; exact this)))
   have HL7 := Lib.hid ((HL6.out.drew).kept b7)
   refine hK _ _ (HQ.out _ HX7.out) ?_
   clear hK K b7
   iterate 2 (refine Text.purek rfl rfl (fun K hK => ⟨_, fun w' => by go_simp <;> rfl, ?_⟩); go_simp; refine hK _ ?_; clear hK K)
   refine Text.eff rfl rfl (fun K hK => ?_)
   refine wp_storev 60 (.tmp 55) (.tmp 54) rfl 4 (by kernel_rfl) w4.heap.size (k * 4) _ _ (tokN Kx s i d fk).cells rfl rfl HL7.out rfl (Tk.one _) (by rw [HTL.out]; omega) ?_
   intro w8 a1 a2 a3
   rw [HST.out] at a1
   have HL8 := Lib.hid a1
   have HX8 : Hid (Below w4.heap.size w4 w8) := Lib.hid (((Kp.of_below (S := fun _ => False) HX7.out).after a2 (fun i hi e => by omega)).below (Nat.le_refl _) (fun _ h => h.elim))
   refine hK _ _ (HQ.out _ HX8.out) ?_
   clear hK K a1 a2 a3
   refine Text.done ?_
   go_wp2_with fail
   go_roundw
   case rel => exact ⟨k + 1, by omega, by go_num, HL8, HX8⟩
   case measure => simp [intOf]; omega
  ·
   obtain rfl : k = c := by omega
   have h9 := hl.out
   rw [tokP_all] at h9
   have HL9 := Lib.hid h9
   clear h9
   go_wp2_with fail
   go_ret2
   exact ⟨w4.heap.size, k, rfl, by simp [tokL], HB4.out.size, HL9.out, below_thenB HB4.out HB4.out.size hx.out⟩
end Go.Proofs.YtfcakjpljjnjnaaGreatDoor
/- Contracts: Nonce, and Tokens where an argument is not valid. -/
namespace Go.Proofs.YtfcakjpljjnjnaaGreatDoor
open Go Go.RowKit Gf Sha

set_option maxRecDepth 100000 in
set_option maxHeartbeats 4000000 in
theorem tokens_not (Kx : Ky) (s : List UInt8) (i : Int) (A : Option Addr) (m cp : Nat) (f c : Int) (w : World) (h : (okK Kx && (idB s i && (dataB m && rangeB f c))) = false) :
  Calls Tryz.prog 14 #[Kx.val, .agg #[.string (strB s), .int .i64 i], .slice A m cp, .int .i64 f, .int .i64 c] w fun e w' => e = .returned (.tuple #[.slice none 0 0, .int .i64 1]) ∧ Below w.heap.size w w' := by
 by_cases hK : okK Kx = true
 ·
  have HK := Lib.hid hK
  by_cases hI : idB s i = true
  ·
   have HI := Lib.hid hI
   by_cases hD : dataB m = true
   ·
    have HD := Lib.hid hD
    rw [hK, hI, hD, Bool.true_and, Bool.true_and, Bool.true_and] at h
    have HR := Lib.hid h
    clear hK hI hD h
    go_enter Tryz.func14, Tryz.ntmps14
    go_wp2_with (first
  | ((with_reducible show OpW 5); refine wpList_box _ rfl 23 (.tmp 0) rfl Kx.cells rfl ?_; intro w1 a1 a2 a3; have HG1 := Lib.hid a1; have HB1 := Lib.hid a2; clear a1 a2 a3)
  | ((with_reducible show OpW 6); refine wpList_box _ rfl 31 (.tmp 1) rfl [.string (strB s), .int .i64 i] rfl ?_; intro w2 a1 a2 a3; have HP2 := Lib.hid a1; have HB2 := Lib.hid (below_then HB1.out (a2.mono (Nat.le_refl _))); have HG2 := Lib.hid (HG1.out.kept a2); clear a1 a2 a3)
  | ((with_reducible show OpW 15); refine wpList_loadv _ rfl 23 (.tmp 5) rfl 5 (by kernel_rfl) w.heap.size 0 Kx.cells rfl (BL.all HG2.out) rfl ?_)
  | (go_at_call 22; refine (areKeys_any Kx w2).mono ?_; rintro e w3 ⟨rfl, b1⟩; rw [HK.out]; have HB3 := Lib.hid (below_thenB HB2.out HB2.out.size b1); have HG3 := Lib.hid (HG2.out.kept b1); have HP3 := Lib.hid (HP2.out.kept b1); have q0 := HP3.out.get (j := 0) rfl; have q1 := HP3.out.get (j := 1) rfl; clear b1)
  | (go_at_call 36; refine (isID_any s i w3).mono ?_; rintro e w4 ⟨rfl, b1⟩; rw [HI.out]; have HB4 := Lib.hid (below_thenB HB3.out HB3.out.size b1); have HG4 := Lib.hid (HG3.out.kept b1); have HP4 := Lib.hid (HP3.out.kept b1); clear b1 q0 q1)
  | (go_at_call 37; refine (isData_any A m cp w4).mono ?_; rintro e w' ⟨rfl, rfl⟩; rw [HD.out])
  | (go_at_call 23; refine (isRange_any f c w4).mono ?_; rintro e w' ⟨rfl, rfl⟩; rw [HR.out]))
    go_ret2
    exact ⟨rfl, HB4.out⟩
   ·
    simp only [Bool.not_eq_true] at hD
    have HD := Lib.hid hD
    clear hK hI hD h
    go_enter Tryz.func14, Tryz.ntmps14
    go_wp2_with (first
  | ((with_reducible show OpW 5); refine wpList_box _ rfl 23 (.tmp 0) rfl Kx.cells rfl ?_; intro w1 a1 a2 a3; have HG1 := Lib.hid a1; have HB1 := Lib.hid a2; clear a1 a2 a3)
  | ((with_reducible show OpW 6); refine wpList_box _ rfl 31 (.tmp 1) rfl [.string (strB s), .int .i64 i] rfl ?_; intro w2 a1 a2 a3; have HP2 := Lib.hid a1; have HB2 := Lib.hid (below_then HB1.out (a2.mono (Nat.le_refl _))); have HG2 := Lib.hid (HG1.out.kept a2); clear a1 a2 a3)
  | ((with_reducible show OpW 15); refine wpList_loadv _ rfl 23 (.tmp 5) rfl 5 (by kernel_rfl) w.heap.size 0 Kx.cells rfl (BL.all HG2.out) rfl ?_)
  | (go_at_call 22; refine (areKeys_any Kx w2).mono ?_; rintro e w3 ⟨rfl, b1⟩; rw [HK.out]; have HB3 := Lib.hid (below_thenB HB2.out HB2.out.size b1); have HG3 := Lib.hid (HG2.out.kept b1); have HP3 := Lib.hid (HP2.out.kept b1); have q0 := HP3.out.get (j := 0) rfl; have q1 := HP3.out.get (j := 1) rfl; clear b1)
  | (go_at_call 36; refine (isID_any s i w3).mono ?_; rintro e w4 ⟨rfl, b1⟩; rw [HI.out]; have HB4 := Lib.hid (below_thenB HB3.out HB3.out.size b1); have HG4 := Lib.hid (HG3.out.kept b1); have HP4 := Lib.hid (HP3.out.kept b1); clear b1 q0 q1)
  | (go_at_call 37; refine (isData_any A m cp w4).mono ?_; rintro e w' ⟨rfl, rfl⟩; rw [HD.out]))
    go_ret2
    exact ⟨rfl, HB4.out⟩
  ·
   simp only [Bool.not_eq_true] at hI
   have HI := Lib.hid hI
   clear hK hI h
   go_enter Tryz.func14, Tryz.ntmps14
   go_wp2_with (first
  | ((with_reducible show OpW 5); refine wpList_box _ rfl 23 (.tmp 0) rfl Kx.cells rfl ?_; intro w1 a1 a2 a3; have HG1 := Lib.hid a1; have HB1 := Lib.hid a2; clear a1 a2 a3)
  | ((with_reducible show OpW 6); refine wpList_box _ rfl 31 (.tmp 1) rfl [.string (strB s), .int .i64 i] rfl ?_; intro w2 a1 a2 a3; have HP2 := Lib.hid a1; have HB2 := Lib.hid (below_then HB1.out (a2.mono (Nat.le_refl _))); have HG2 := Lib.hid (HG1.out.kept a2); clear a1 a2 a3)
  | ((with_reducible show OpW 15); refine wpList_loadv _ rfl 23 (.tmp 5) rfl 5 (by kernel_rfl) w.heap.size 0 Kx.cells rfl (BL.all HG2.out) rfl ?_)
  | (go_at_call 22; refine (areKeys_any Kx w2).mono ?_; rintro e w3 ⟨rfl, b1⟩; rw [HK.out]; have HB3 := Lib.hid (below_thenB HB2.out HB2.out.size b1); have HG3 := Lib.hid (HG2.out.kept b1); have HP3 := Lib.hid (HP2.out.kept b1); have q0 := HP3.out.get (j := 0) rfl; have q1 := HP3.out.get (j := 1) rfl; clear b1)
  | (go_at_call 36; refine (isID_any s i w3).mono ?_; rintro e w4 ⟨rfl, b1⟩; rw [HI.out]; have HB4 := Lib.hid (below_thenB HB3.out HB3.out.size b1); have HG4 := Lib.hid (HG3.out.kept b1); have HP4 := Lib.hid (HP3.out.kept b1); clear b1 q0 q1))
   go_ret2
   exact ⟨rfl, HB4.out⟩
 ·
  simp only [Bool.not_eq_true] at hK
  have HK := Lib.hid hK
  clear hK h
  go_enter Tryz.func14, Tryz.ntmps14
  go_wp2_with (first
  | ((with_reducible show OpW 5); refine wpList_box _ rfl 23 (.tmp 0) rfl Kx.cells rfl ?_; intro w1 a1 a2 a3; have HG1 := Lib.hid a1; have HB1 := Lib.hid a2; clear a1 a2 a3)
  | ((with_reducible show OpW 6); refine wpList_box _ rfl 31 (.tmp 1) rfl [.string (strB s), .int .i64 i] rfl ?_; intro w2 a1 a2 a3; have HP2 := Lib.hid a1; have HB2 := Lib.hid (below_then HB1.out (a2.mono (Nat.le_refl _))); have HG2 := Lib.hid (HG1.out.kept a2); clear a1 a2 a3)
  | ((with_reducible show OpW 15); refine wpList_loadv _ rfl 23 (.tmp 5) rfl 5 (by kernel_rfl) w.heap.size 0 Kx.cells rfl (BL.all HG2.out) rfl ?_)
  | (go_at_call 22; refine (areKeys_any Kx w2).mono ?_; rintro e w3 ⟨rfl, b1⟩; rw [HK.out]; have HB3 := Lib.hid (below_thenB HB2.out HB2.out.size b1); have HG3 := Lib.hid (HG2.out.kept b1); have HP3 := Lib.hid (HP2.out.kept b1); have q0 := HP3.out.get (j := 0) rfl; have q1 := HP3.out.get (j := 1) rfl; clear b1))
  go_ret2
  exact ⟨rfl, HB3.out⟩
end Go.Proofs.YtfcakjpljjnjnaaGreatDoor
