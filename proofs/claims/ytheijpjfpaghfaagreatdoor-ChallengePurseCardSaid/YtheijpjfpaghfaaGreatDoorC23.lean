/- Several texts in one: Eb. -/
import Derived.Test.YtheijpjfpaghfaaGreatDoorC22
/- wire.Reader: numbers. -/
namespace Go.Proofs.YtheijpjfpaghfaaGreatDoor
open Go Go.RowKit Gf Sha

/-- The number whose encoding begins a list, and its length; f bytes at most. -/
def numG : Nat → Nat → Nat → List UInt8 → Option (Nat × Nat)
 | 0, _, _, _ => none
 | _ + 1, _, _, [] => none
 | f + 1, i, n, b :: r => if 128 ≤ b.toNat then numG f (i + 1) (n + (b.toNat % 128) * 2 ^ (7 * i)) r else if (0 < i ∧ b.toNat = 0) ∨ (i = 9 ∧ 1 < b.toNat) then none else some (n + (b.toNat % 128) * 2 ^ (7 * i), i + 1)
def num (r : List UInt8) : Option (Nat × Nat) := numG 10 0 0 r
theorem numG_nil (f i n : Nat) : numG f i n [] = none := by cases f <;> rfl
theorem drop_cons {r : List UInt8} {i : Nat} (h : i < r.length) : r.drop i = gB r i :: r.drop (i + 1) := by
 rw [List.drop_eq_getElem_cons h, gB_eq h]
theorem and127 (b : UInt8) : bits .and .u8 (bv b) 127 = bv (b &&& 127) := Gf.and_bits b 127
theorem and127_nat : ∀ b : UInt8, (b &&& 127).toNat = b.toNat % 128 := by
 intro b
 rw [UInt8.toNat_and]
 exact Nat.and_two_pow_sub_one_eq_mod b.toNat 7
section
variable {P : Program} (w : World) {ops : Array Oper} {rest : List Oper} {o : Oper} {a : Act} {Q : Exit → Act → World → Prop}
/-- x << s, whatever comes of it. -/
theorem wpList_shlA (hg : o.guard = none) (x y : Operand) (t t2 : TypeId) (hop : o.op = .binOp .shl t x y t2) (ky : IntKind) (s : Nat) (zx zy : Int) (hx : a.eval x = .int .u64 zx) (hy : a.eval y = .int ky zy) (hs : zy = (s : Int))
  (h : ∀ Z : Nat, Z < 18446744073709551616 → wpList P ops Q rest (a.put o.dst (.int .u64 (Z : Int))) w) : wpList P ops Q (o :: rest) a w :=
 wpList_plain hg fun K hK => by
  subst hs
  have e : ∀ w', ∃ Z : Nat, Z < 18446744073709551616 ∧ (binOp .shl t (.int .u64 zx) (.int ky (s : Int))).run P w' = .ok (.int .u64 (Z : Int)) w' := fun w' => by
   refine ⟨((zx * 2 ^ min (s : Int).toNat IntKind.u64.bits) % 18446744073709551616).toNat, ?_, ?_⟩
   ·
    have := Int.emod_lt_of_pos (zx * 2 ^ min (s : Int).toNat IntKind.u64.bits) (show (0 : Int) < 18446744073709551616 by decide)
    omega
   ·
    show (Op.shift .shl .u64 zx ky (s : Int)).run P w' = _
    unfold Op.shift
    rw [if_neg (by omega)]
    show Result.ok (Value.int IntKind.u64 (IntKind.u64.wrap _)) w' = _
    rw [Int.toNat_of_nonneg (Int.emod_nonneg _ (by decide))]
    rfl
  obtain ⟨Z, hZ, hr⟩ := e w
  unfold Oper.wp execOp
  simp only [hop, hx, hy]
  simp [eqGuard, Result.andThen, hr]
  exact hK _ _ (by simpa using h Z hZ)
end
/-- A reader: its bytes, where it stands, the last place, the error. -/
def RdAt (w : World) (g : Nat) (A : Option Addr) (n c : Nat) (b : List UInt8) (off last err : Int) : Prop := BL w g 133 [.slice A n c, .int .i64 off, .int .i64 last, .int .i64 err] ∧ BS w A n c b ∧ FarB A n (· = g)
section
variable {w w' : World} {g n c : Nat} {A : Option Addr} {b : List UInt8} {off last err off' last' err' : Int}
theorem RdAt.set (h : RdAt w g A n c b off last err) (hk : Kp (· = g) w w') (hb : BL w' g 133 [.slice A n c, .int .i64 off', .int .i64 last', .int .i64 err']) : RdAt w' g A n c b off' last' err' := ⟨hb, h.2.1.kpf hk h.2.2, h.2.2⟩
theorem RdAt.kept (h : RdAt w g A n c b off last err) (hb : Below w.heap.size w w') : RdAt w' g A n c b off last err := ⟨h.1.kept hb, h.2.1.kept hb, h.2.2⟩
theorem RdAt.drew (h : RdAt w g A n c b off last err) : RdAt w.drew g A n c b off last err := h
end
/-- What number returns. -/
def numR (r : List UInt8) (v : Nat) (err : Int) (k : Nat) : Prop := (err = 0 ∧ num r = some (v, k)) ∨ (err = 3 ∧ v = 0 ∧ num r = none)
theorem or_add {z i y : Nat} (h : z < 2 ^ (7 * i)) : z ||| y * 2 ^ (7 * i) = z + y * 2 ^ (7 * i) := by
 rw [Nat.or_comm, Nat.mul_comm y, ← Nat.two_pow_add_eq_or_of_lt h, Nat.add_comm]
theorem num_lt {z i y : Nat} (h : z < 2 ^ (7 * i)) : z + (y % 128) * 2 ^ (7 * i) < 2 ^ (7 * (i + 1)) := by
 have h1 : y % 128 ≤ 127 := by omega
 have h2 : (y % 128) * 2 ^ (7 * i) ≤ 127 * 2 ^ (7 * i) := Nat.mul_le_mul_right _ h1
 have h3 : 2 ^ (7 * (i + 1)) = 128 * 2 ^ (7 * i) := by rw [show 7 * (i + 1) = 7 + 7 * i by omega, Nat.pow_add]
 omega
theorem fit64 {i y : Nat} (h : i < 9 ∨ (i = 9 ∧ y ≤ 1)) : (y % 128) * 2 ^ (7 * i) < 18446744073709551616 := by
 rcases h with h | ⟨rfl, h⟩
 ·
  have h1 : 2 ^ (7 * i) ≤ 2 ^ 56 := Nat.pow_le_pow_right (by decide) (by omega)
  have h2 : (y % 128) * 2 ^ (7 * i) ≤ 127 * 2 ^ 56 := Nat.mul_le_mul (by omega) h1
  exact Nat.lt_of_le_of_lt h2 (by decide)
 ·
  have h2 : (y % 128) * 2 ^ (7 * 9) ≤ 1 * 2 ^ 63 := Nat.mul_le_mul (by omega) (by decide)
  exact Nat.lt_of_le_of_lt h2 (by decide)
theorem or64 {a b : Nat} (ha : a < 18446744073709551616) (hb : b < 18446744073709551616) : a ||| b < 18446744073709551616 := Nat.or_lt_two_pow (n := 64) ha hb
section
end
theorem numG_step {f i n : Nat} {r : List UInt8} {b : UInt8} (h : 128 ≤ b.toNat) : numG (f + 1) i n (b :: r) = numG f (i + 1) (n + (b.toNat % 128) * 2 ^ (7 * i)) r := by
 rw [numG, if_pos h]
theorem numG_bad {f i n : Nat} {r : List UInt8} {b : UInt8} (h : ¬ 128 ≤ b.toNat) (h1 : (0 < i ∧ b.toNat = 0) ∨ (i = 9 ∧ 1 < b.toNat)) : numG (f + 1) i n (b :: r) = none := by
 rw [numG, if_neg h, if_pos h1]
theorem numG_end {f i n : Nat} {r : List UInt8} {b : UInt8} (h : ¬ 128 ≤ b.toNat) (h1 : ¬ ((0 < i ∧ b.toNat = 0) ∨ (i = 9 ∧ 1 < b.toNat))) : numG (f + 1) i n (b :: r) = some (n + (b.toNat % 128) * 2 ^ (7 * i), i + 1) := by
 rw [numG, if_neg h, if_neg h1]
theorem bv_nat (y : UInt8) : bv y = ((y.toNat : Nat) : Int) := rfl
section
attribute [local go_sem] and127
set_option maxRecDepth 100000 in
set_option maxHeartbeats 4000000 in
theorem number_any (w : World) (g n c : Nat) (A : Option Addr) (b : List UInt8) (off : Nat) (last : Int) (h : RdAt w g A n c b off last 0) (ho : off ≤ n) :
  Calls Tryz.prog 90 #[.pointer (some ⟨g, 0, none⟩)] w fun e w' => ∃ (v : Nat) (err : Int) (k : Nat), e = .returned (.tuple #[.int .u64 (v : Int), .int .i64 err]) ∧ numR (b.drop off) v err k ∧ off + k ≤ n ∧ RdAt w' g A n c b ((off + k : Nat) : Int) last 0 ∧ Kp (· = g) w w' := by
 have H := Lib.hid h
 have hlim : n ≤ 140737488355328 := by have := h.2.1.2.2.1; unfold lim at this; omega
 have HBL := Lib.hid h.2.1.1
 clear h
 go_enter Tryz.func90, Tryz.ntmps90
 go_wp2_with fail
 go_loopw [2, 6] (fun nv iv wr => ∃ i z nn : Nat, i ≤ 10 ∧ off + i ≤ n ∧ nv = .int .u64 (z : Int) ∧ iv = .int .i64 (i : Int) ∧ Hid (i < 10 → z = nn) ∧ Hid (z < 18446744073709551616) ∧ Hid (nn < 2 ^ (7 * i)) ∧ Hid (num (b.drop off) = numG (10 - i) i nn (b.drop (off + i))) ∧ Hid (RdAt wr g A n c b ((off + i : Nat) : Int) last 0) ∧ Hid (Kp (· = g) w wr)) (fun _ iv _ => 10 - (intOf iv).toNat)
 case atStart => exact ⟨0, 0, 0, by omega, by omega, rfl, rfl, Lib.hid (fun _ => rfl), Lib.hid (by decide), Lib.hid (by decide), Lib.hid rfl, H, Lib.hid (Kp.refl _ _)⟩
 case round =>
  obtain ⟨i, z, nn, hi, hoi, rfl, rfl, hz, hzb, hnn, hnum, hrd, hk⟩ := hrel
  obtain ⟨wx, hwx⟩ : ∃ x, x = wr := ⟨_, rfl⟩
  rw [← hwx] at hrd hk ⊢
  clear hwx
  obtain ⟨p, hp⟩ : ∃ p, p = off + i := ⟨_, rfl⟩
  rw [← hp] at hrd hnum hoi
  have HPO := Lib.hid hp
  clear hp
  by_cases hi10 : i < 10
  ·
   by_cases hlt : p < n
   ·
    obtain ⟨gA, oA, rfl, hce⟩ := hrd.out.2.1.at_ (Below.refl _ _) hlt
    obtain ⟨y, hy⟩ : ∃ y, y = gB b p := ⟨_, rfl⟩
    rw [← hy] at hce
    have HCE := Lib.hid hce
    have HD : Hid (b.drop p = y :: b.drop (p + 1)) := Lib.hid (by rw [hy]; exact drop_cons (by rw [HBL.out]; exact hlt))
    have HF : Hid (10 - i = 10 - (i + 1) + 1) := Lib.hid (by omega)
    obtain rfl := hz.out hi10
    clear hce hy hz
    have e1 : ((p : Int) == (n : Int)) = false := by rw [beq_eq_false_iff_ne]; omega
    by_cases hy1 : 128 ≤ y.toNat
    ·
     have f1 : decide ((128 : Int) ≤ bv y) = true := decide_eq_true (by rw [bv_nat]; omega)
     have HNM : Hid (num (b.drop off) = numG (10 - (i + 1)) (i + 1) (z + (y.toNat % 128) * 2 ^ (7 * i)) (b.drop (p + 1))) := Lib.hid (by rw [hnum.out, HD.out, HF.out, numG_step hy1])
     clear hy1
     by_cases h9 : i < 9
     ·
      have HX : Hid (y.toNat % 128 * 2 ^ (7 * i) < 18446744073709551616) := Lib.hid (fit64 (.inl h9))
      go_wp2_with fail
      refine Text.wp_region_text (fun w' => w'.cell? ⟨g, 0, none⟩ = some (.slice (some ⟨gA, oA, none⟩) n c) ∧ w'.cell? ⟨g, 1, none⟩ = some (.int .i64 (p : Int))) [(0, 4), (1, 4), (2, 4), (4, 4), (5, 4), (6, 4), (3, 0), (7, 0), (8, 4), (9, 4)] (by kernel_rfl) (by kernel_rfl) (fun _ _ _ _ _ h => h) (⟨hrd.out.1.get (j := 0) rfl, hrd.out.1.get (j := 1) rfl⟩) ?_
      iterate 6 (refine Text.purek rfl rfl (fun K hK => ⟨_, fun w' => by go_simp <;> rfl, ?_⟩); go_simp; refine hK _ ?_; clear hK K)
      iterate 2 (refine Text.heldk rfl rfl (fun K hK => ⟨_, fun w' hw' => by go_simp <;> rfl, ?_⟩); go_simp; refine hK _ ?_; clear hK K)
      iterate 2 (refine Text.purek rfl rfl (fun K hK => ⟨_, fun w' => by go_simp <;> rfl, ?_⟩); go_simp; refine hK _ ?_; clear hK K)
      refine Text.done ?_
      go_wp2_with fail
      refine Text.wp_region_text (fun w' => w'.cell? ⟨g, 0, none⟩ = some (.slice (some ⟨gA, oA, none⟩) n c) ∧ w'.cell? ⟨g, 1, none⟩ = some (.int .i64 (p : Int)) ∧ w'.cell? ⟨gA, oA + p, none⟩ = some (B y)) [(0, 4), (1, 4), (2, 4), (4, 4), (5, 4), (6, 4), (3, 0), (7, 0), (8, 4), (9, 0), (10, 4)] (by kernel_rfl) (by kernel_rfl) (fun _ _ _ _ _ h => h) (⟨hrd.out.1.get (j := 0) rfl, hrd.out.1.get (j := 1) rfl, HCE.out⟩) ?_
      iterate 6 (refine Text.purek rfl rfl (fun K hK => ⟨_, fun w' => by go_simp <;> rfl, ?_⟩); go_simp; refine hK _ ?_; clear hK K)
      iterate 2 (refine Text.heldk rfl rfl (fun K hK => ⟨_, fun w' hw' => by go_simp <;> rfl, ?_⟩); go_simp; refine hK _ ?_; clear hK K)
      (refine Text.purek rfl rfl (fun K hK => ⟨_, fun w' => by go_simp <;> rfl, ?_⟩); go_simp; refine hK _ ?_; clear hK K)
      (refine Text.heldk rfl rfl (fun K hK => ⟨_, fun w' hw' => by go_simp <;> rfl, ?_⟩); go_simp; refine hK _ ?_; clear hK K)
      (refine Text.purek rfl rfl (fun K hK => ⟨_, fun w' => by go_simp <;> rfl, ?_⟩); go_simp; refine hK _ ?_; clear hK K)
      refine Text.done ?_
      have q1 : wx.drew.drew.cell? ⟨g, 1, none⟩ = some (.int .i64 (p : Int)) := hrd.out.1.get (j := 1) rfl
      go_wp2_with (first
       | ((with_reducible show OpN); refine wpList_store1 _ rfl 3 (.tmp 35) (.tmp 33) rfl (sz1 _ (by kernel_rfl) _) g 1 _ _ (.int .i64 ((p + 1 : Nat) : Int)) rfl (by go_simp) hrd.out.1 rfl rfl (by simp) ?_; intro w3 y1 y2 y3; have HRD3 := Lib.hid (hrd.out.drew.drew.set (off' := ((p + 1 : Nat) : Int)) (last' := last) (err' := 0) y2 y1); have HK3 := Lib.hid ((Kp.drew (Kp.drew hk.out)).trans y2); clear y1 y2 y3)
       | ((with_reducible show OpW 39); refine wpList_convN _ rfl (.tmp 38) 5 98 rfl _ .u8 .u64 Tryz.underlying5 Tryz.underlying98 (y.toNat % 128) _ rfl (by unfold bv; rw [and127_nat]) (wrapU _ (by omega)) ?_)
       | ((with_reducible show OpW 42); refine wpList_shlN _ rfl (.tmp 39) (.tmp 41) _ _ rfl .i64 (y.toNat % 128) (7 * i) _ _ rfl rfl rfl (by omega) (by omega) HX.out ?_)
       | ((with_reducible show OpW 43); refine wpList_orN _ rfl (.tmp 36) (.tmp 42) _ _ rfl z (y.toNat % 128 * 2 ^ (7 * i)) _ _ rfl rfl rfl rfl hzb.out HX.out ?_)
       | fail)
      go_roundw
      case rel => exact ⟨i + 1, _, _, by omega, by have := HPO.out; omega, rfl, by go_num, Lib.hid (fun _ => or_add hnn.out), Lib.hid (or64 hzb.out HX.out), Lib.hid (num_lt hnn.out), Lib.hid (by rw [HNM.out, HPO.out, Nat.add_assoc]), Lib.hid (by have h9 := HRD3.out; rwa [HPO.out, Nat.add_assoc] at h9), HK3⟩
      case measure => simp [intOf]; omega
     ·
      obtain rfl : i = 9 := by omega
      go_wp2_with fail
      refine Text.wp_region_text (fun w' => w'.cell? ⟨g, 0, none⟩ = some (.slice (some ⟨gA, oA, none⟩) n c) ∧ w'.cell? ⟨g, 1, none⟩ = some (.int .i64 (p : Int))) [(0, 4), (1, 4), (2, 4), (4, 4), (5, 4), (6, 4), (3, 0), (7, 0), (8, 4), (9, 4)] (by kernel_rfl) (by kernel_rfl) (fun _ _ _ _ _ h => h) (⟨hrd.out.1.get (j := 0) rfl, hrd.out.1.get (j := 1) rfl⟩) ?_
      iterate 6 (refine Text.purek rfl rfl (fun K hK => ⟨_, fun w' => by go_simp <;> rfl, ?_⟩); go_simp; refine hK _ ?_; clear hK K)
      iterate 2 (refine Text.heldk rfl rfl (fun K hK => ⟨_, fun w' hw' => by go_simp <;> rfl, ?_⟩); go_simp; refine hK _ ?_; clear hK K)
      iterate 2 (refine Text.purek rfl rfl (fun K hK => ⟨_, fun w' => by go_simp <;> rfl, ?_⟩); go_simp; refine hK _ ?_; clear hK K)
      refine Text.done ?_
      go_wp2_with fail
      refine Text.wp_region_text (fun w' => w'.cell? ⟨g, 0, none⟩ = some (.slice (some ⟨gA, oA, none⟩) n c) ∧ w'.cell? ⟨g, 1, none⟩ = some (.int .i64 (p : Int)) ∧ w'.cell? ⟨gA, oA + p, none⟩ = some (B y)) [(0, 4), (1, 4), (2, 4), (4, 4), (5, 4), (6, 4), (3, 0), (7, 0), (8, 4), (9, 0), (10, 4)] (by kernel_rfl) (by kernel_rfl) (fun _ _ _ _ _ h => h) (⟨hrd.out.1.get (j := 0) rfl, hrd.out.1.get (j := 1) rfl, HCE.out⟩) ?_
      iterate 6 (refine Text.purek rfl rfl (fun K hK => ⟨_, fun w' => by go_simp <;> rfl, ?_⟩); go_simp; refine hK _ ?_; clear hK K)
      iterate 2 (refine Text.heldk rfl rfl (fun K hK => ⟨_, fun w' hw' => by go_simp <;> rfl, ?_⟩); go_simp; refine hK _ ?_; clear hK K)
      (refine Text.purek rfl rfl (fun K hK => ⟨_, fun w' => by go_simp <;> rfl, ?_⟩); go_simp; refine hK _ ?_; clear hK K)
      (refine Text.heldk rfl rfl (fun K hK => ⟨_, fun w' hw' => by go_simp <;> rfl, ?_⟩); go_simp; refine hK _ ?_; clear hK K)
      (refine Text.purek rfl rfl (fun K hK => ⟨_, fun w' => by go_simp <;> rfl, ?_⟩); go_simp; refine hK _ ?_; clear hK K)
      refine Text.done ?_
      have q1 : wx.drew.drew.cell? ⟨g, 1, none⟩ = some (.int .i64 (p : Int)) := hrd.out.1.get (j := 1) rfl
      go_wp2_with (first
       | ((with_reducible show OpN); refine wpList_store1 _ rfl 3 (.tmp 35) (.tmp 33) rfl (sz1 _ (by kernel_rfl) _) g 1 _ _ (.int .i64 ((p + 1 : Nat) : Int)) rfl (by go_simp) hrd.out.1 rfl rfl (by simp) ?_; intro w3 y1 y2 y3; have HRD3 := Lib.hid (hrd.out.drew.drew.set (off' := ((p + 1 : Nat) : Int)) (last' := last) (err' := 0) y2 y1); have HK3 := Lib.hid ((Kp.drew (Kp.drew hk.out)).trans y2); clear y1 y2 y3)
       | ((with_reducible show OpW 39); refine wpList_convN _ rfl (.tmp 38) 5 98 rfl _ .u8 .u64 Tryz.underlying5 Tryz.underlying98 (y.toNat % 128) _ rfl (by unfold bv; rw [and127_nat]) (wrapU _ (by omega)) ?_)
       | ((with_reducible show OpW 42); refine wpList_shlA _ rfl (.tmp 39) (.tmp 41) _ _ rfl .i64 63 _ _ rfl rfl (by omega) ?_; intro Z hZ; have HZ := Lib.hid hZ; clear hZ)
       | ((with_reducible show OpW 43); refine wpList_orN _ rfl (.tmp 36) (.tmp 42) _ _ rfl z Z _ _ rfl rfl rfl rfl hzb.out HZ.out ?_)
       | fail)
      go_roundw
      case rel => exact ⟨9 + 1, _, _, by omega, by have := HPO.out; omega, rfl, by go_num, Lib.hid (fun h => absurd h (by omega)), Lib.hid (or64 hzb.out HZ.out), Lib.hid (num_lt hnn.out), Lib.hid (by rw [HNM.out, HPO.out, Nat.add_assoc]), Lib.hid (by have h9 := HRD3.out; rwa [HPO.out, Nat.add_assoc] at h9), HK3⟩
      case measure => simp [intOf]
    ·
     have f1 : decide ((128 : Int) ≤ bv y) = false := decide_eq_false (by rw [bv_nat]; omega)
     have HB : Hid (¬ 128 ≤ y.toNat) := Lib.hid hy1
     by_cases h9 : i < 9
     ·
      have HX : Hid (y.toNat % 128 * 2 ^ (7 * i) < 18446744073709551616) := Lib.hid (fit64 (.inl h9))
      have f4 : ((i : Int) == 9) = false := by rw [beq_eq_false_iff_ne]; omega
      by_cases h0 : 0 < i
      ·
       by_cases hz : y.toNat = 0
       ·
        have f3 : (bv y == 0) = true := by rw [bv_nat, hz]; rfl
        have HNM : Hid (num (b.drop off) = none) := Lib.hid (by rw [hnum.out, HD.out, HF.out, numG_bad HB.out (.inl ⟨h0, hz⟩)])
        have f2 : decide (0 < i) = true := decide_eq_true h0
        clear hz
        go_wp2_with fail
        refine Text.wp_region_text (fun w' => w'.cell? ⟨g, 0, none⟩ = some (.slice (some ⟨gA, oA, none⟩) n c) ∧ w'.cell? ⟨g, 1, none⟩ = some (.int .i64 (p : Int))) [(0, 4), (1, 4), (2, 4), (4, 4), (5, 4), (6, 4), (3, 0), (7, 0), (8, 4), (9, 4)] (by kernel_rfl) (by kernel_rfl) (fun _ _ _ _ _ h => h) (⟨hrd.out.1.get (j := 0) rfl, hrd.out.1.get (j := 1) rfl⟩) ?_
        iterate 6 (refine Text.purek rfl rfl (fun K hK => ⟨_, fun w' => by go_simp <;> rfl, ?_⟩); go_simp; refine hK _ ?_; clear hK K)
        iterate 2 (refine Text.heldk rfl rfl (fun K hK => ⟨_, fun w' hw' => by go_simp <;> rfl, ?_⟩); go_simp; refine hK _ ?_; clear hK K)
        iterate 2 (refine Text.purek rfl rfl (fun K hK => ⟨_, fun w' => by go_simp <;> rfl, ?_⟩); go_simp; refine hK _ ?_; clear hK K)
        refine Text.done ?_
        go_wp2_with fail
        refine Text.wp_region_text (fun w' => w'.cell? ⟨g, 0, none⟩ = some (.slice (some ⟨gA, oA, none⟩) n c) ∧ w'.cell? ⟨g, 1, none⟩ = some (.int .i64 (p : Int)) ∧ w'.cell? ⟨gA, oA + p, none⟩ = some (B y)) [(0, 4), (1, 4), (2, 4), (4, 4), (5, 4), (6, 4), (3, 0), (7, 0), (8, 4), (9, 0), (10, 4)] (by kernel_rfl) (by kernel_rfl) (fun _ _ _ _ _ h => h) (⟨hrd.out.1.get (j := 0) rfl, hrd.out.1.get (j := 1) rfl, HCE.out⟩) ?_
        iterate 6 (refine Text.purek rfl rfl (fun K hK => ⟨_, fun w' => by go_simp <;> rfl, ?_⟩); go_simp; refine hK _ ?_; clear hK K)
        iterate 2 (refine Text.heldk rfl rfl (fun K hK => ⟨_, fun w' hw' => by go_simp <;> rfl, ?_⟩); go_simp; refine hK _ ?_; clear hK K)
        (refine Text.purek rfl rfl (fun K hK => ⟨_, fun w' => by go_simp <;> rfl, ?_⟩); go_simp; refine hK _ ?_; clear hK K)
        (refine Text.heldk rfl rfl (fun K hK => ⟨_, fun w' hw' => by go_simp <;> rfl, ?_⟩); go_simp; refine hK _ ?_; clear hK K)
        (refine Text.purek rfl rfl (fun K hK => ⟨_, fun w' => by go_simp <;> rfl, ?_⟩); go_simp; refine hK _ ?_; clear hK K)
        refine Text.done ?_
        have q1 : wx.drew.drew.cell? ⟨g, 1, none⟩ = some (.int .i64 (p : Int)) := hrd.out.1.get (j := 1) rfl
        go_wp2_with (first
         | ((with_reducible show OpN); refine wpList_store1 _ rfl 3 (.tmp 35) (.tmp 33) rfl (sz1 _ (by kernel_rfl) _) g 1 _ _ (.int .i64 ((p + 1 : Nat) : Int)) rfl (by go_simp) hrd.out.1 rfl rfl (by simp) ?_; intro w3 y1 y2 y3; have HRD3 := Lib.hid (hrd.out.drew.drew.set (off' := ((p + 1 : Nat) : Int)) (last' := last) (err' := 0) y2 y1); have HK3 := Lib.hid ((Kp.drew (Kp.drew hk.out)).trans y2); clear y1 y2 y3)
         | ((with_reducible show OpW 39); refine wpList_convN _ rfl (.tmp 38) 5 98 rfl _ .u8 .u64 Tryz.underlying5 Tryz.underlying98 (y.toNat % 128) _ rfl (by unfold bv; rw [and127_nat]) (wrapU _ (by omega)) ?_)
         | ((with_reducible show OpW 42); refine wpList_shlN _ rfl (.tmp 39) (.tmp 41) _ _ rfl .i64 (y.toNat % 128) (7 * i) _ _ rfl rfl rfl (by omega) (by omega) HX.out ?_)
         | ((with_reducible show OpW 43); refine wpList_orN _ rfl (.tmp 36) (.tmp 42) _ _ rfl z (y.toNat % 128 * 2 ^ (7 * i)) _ _ rfl rfl rfl rfl hzb.out HX.out ?_)
         | fail)
        go_ret2
        exact ⟨0, 3, i + 1, rfl, .inr ⟨rfl, rfl, HNM.out⟩, by have := HPO.out; omega, by have h9 := HRD3.out; rwa [HPO.out, Nat.add_assoc] at h9, HK3.out⟩
       ·
        have f3 : (bv y == 0) = false := by rw [bv_nat, beq_eq_false_iff_ne]; omega
        have HNM : Hid (num (b.drop off) = some (z + (y.toNat % 128) * 2 ^ (7 * i), i + 1)) := Lib.hid (by rw [hnum.out, HD.out, HF.out, numG_end HB.out (by omega)])
        have f2 : decide (0 < i) = true := decide_eq_true h0
        clear hz
        go_wp2_with fail
        refine Text.wp_region_text (fun w' => w'.cell? ⟨g, 0, none⟩ = some (.slice (some ⟨gA, oA, none⟩) n c) ∧ w'.cell? ⟨g, 1, none⟩ = some (.int .i64 (p : Int))) [(0, 4), (1, 4), (2, 4), (4, 4), (5, 4), (6, 4), (3, 0), (7, 0), (8, 4), (9, 4)] (by kernel_rfl) (by kernel_rfl) (fun _ _ _ _ _ h => h) (⟨hrd.out.1.get (j := 0) rfl, hrd.out.1.get (j := 1) rfl⟩) ?_
        iterate 6 (refine Text.purek rfl rfl (fun K hK => ⟨_, fun w' => by go_simp <;> rfl, ?_⟩); go_simp; refine hK _ ?_; clear hK K)
        iterate 2 (refine Text.heldk rfl rfl (fun K hK => ⟨_, fun w' hw' => by go_simp <;> rfl, ?_⟩); go_simp; refine hK _ ?_; clear hK K)
        iterate 2 (refine Text.purek rfl rfl (fun K hK => ⟨_, fun w' => by go_simp <;> rfl, ?_⟩); go_simp; refine hK _ ?_; clear hK K)
        refine Text.done ?_
        go_wp2_with fail
        refine Text.wp_region_text (fun w' => w'.cell? ⟨g, 0, none⟩ = some (.slice (some ⟨gA, oA, none⟩) n c) ∧ w'.cell? ⟨g, 1, none⟩ = some (.int .i64 (p : Int)) ∧ w'.cell? ⟨gA, oA + p, none⟩ = some (B y)) [(0, 4), (1, 4), (2, 4), (4, 4), (5, 4), (6, 4), (3, 0), (7, 0), (8, 4), (9, 0), (10, 4)] (by kernel_rfl) (by kernel_rfl) (fun _ _ _ _ _ h => h) (⟨hrd.out.1.get (j := 0) rfl, hrd.out.1.get (j := 1) rfl, HCE.out⟩) ?_
        iterate 6 (refine Text.purek rfl rfl (fun K hK => ⟨_, fun w' => by go_simp <;> rfl, ?_⟩); go_simp; refine hK _ ?_; clear hK K)
        iterate 2 (refine Text.heldk rfl rfl (fun K hK => ⟨_, fun w' hw' => by go_simp <;> rfl, ?_⟩); go_simp; refine hK _ ?_; clear hK K)
        (refine Text.purek rfl rfl (fun K hK => ⟨_, fun w' => by go_simp <;> rfl, ?_⟩); go_simp; refine hK _ ?_; clear hK K)
        (refine Text.heldk rfl rfl (fun K hK => ⟨_, fun w' hw' => by go_simp <;> rfl, ?_⟩); go_simp; refine hK _ ?_; clear hK K)
        (refine Text.purek rfl rfl (fun K hK => ⟨_, fun w' => by go_simp <;> rfl, ?_⟩); go_simp; refine hK _ ?_; clear hK K)
        refine Text.done ?_
        have q1 : wx.drew.drew.cell? ⟨g, 1, none⟩ = some (.int .i64 (p : Int)) := hrd.out.1.get (j := 1) rfl
        go_wp2_with (first
         | ((with_reducible show OpN); refine wpList_store1 _ rfl 3 (.tmp 35) (.tmp 33) rfl (sz1 _ (by kernel_rfl) _) g 1 _ _ (.int .i64 ((p + 1 : Nat) : Int)) rfl (by go_simp) hrd.out.1 rfl rfl (by simp) ?_; intro w3 y1 y2 y3; have HRD3 := Lib.hid (hrd.out.drew.drew.set (off' := ((p + 1 : Nat) : Int)) (last' := last) (err' := 0) y2 y1); have HK3 := Lib.hid ((Kp.drew (Kp.drew hk.out)).trans y2); clear y1 y2 y3)
         | ((with_reducible show OpW 39); refine wpList_convN _ rfl (.tmp 38) 5 98 rfl _ .u8 .u64 Tryz.underlying5 Tryz.underlying98 (y.toNat % 128) _ rfl (by unfold bv; rw [and127_nat]) (wrapU _ (by omega)) ?_)
         | ((with_reducible show OpW 42); refine wpList_shlN _ rfl (.tmp 39) (.tmp 41) _ _ rfl .i64 (y.toNat % 128) (7 * i) _ _ rfl rfl rfl (by omega) (by omega) HX.out ?_)
         | ((with_reducible show OpW 43); refine wpList_orN _ rfl (.tmp 36) (.tmp 42) _ _ rfl z (y.toNat % 128 * 2 ^ (7 * i)) _ _ rfl rfl rfl rfl hzb.out HX.out ?_)
         | fail)
        go_ret2
        exact ⟨_, 0, i + 1, rfl, .inl ⟨rfl, by rw [HNM.out, or_add hnn.out]⟩, by have := HPO.out; omega, by have h9 := HRD3.out; rwa [HPO.out, Nat.add_assoc] at h9, HK3.out⟩
      ·
       have HNM : Hid (num (b.drop off) = some (z + (y.toNat % 128) * 2 ^ (7 * i), i + 1)) := Lib.hid (by rw [hnum.out, HD.out, HF.out, numG_end HB.out (by omega)])
       have f2 : decide (0 < i) = false := decide_eq_false h0

       go_wp2_with fail
       refine Text.wp_region_text (fun w' => w'.cell? ⟨g, 0, none⟩ = some (.slice (some ⟨gA, oA, none⟩) n c) ∧ w'.cell? ⟨g, 1, none⟩ = some (.int .i64 (p : Int))) [(0, 4), (1, 4), (2, 4), (4, 4), (5, 4), (6, 4), (3, 0), (7, 0), (8, 4), (9, 4)] (by kernel_rfl) (by kernel_rfl) (fun _ _ _ _ _ h => h) (⟨hrd.out.1.get (j := 0) rfl, hrd.out.1.get (j := 1) rfl⟩) ?_
       iterate 6 (refine Text.purek rfl rfl (fun K hK => ⟨_, fun w' => by go_simp <;> rfl, ?_⟩); go_simp; refine hK _ ?_; clear hK K)
       iterate 2 (refine Text.heldk rfl rfl (fun K hK => ⟨_, fun w' hw' => by go_simp <;> rfl, ?_⟩); go_simp; refine hK _ ?_; clear hK K)
       iterate 2 (refine Text.purek rfl rfl (fun K hK => ⟨_, fun w' => by go_simp <;> rfl, ?_⟩); go_simp; refine hK _ ?_; clear hK K)
       refine Text.done ?_
       go_wp2_with fail
       refine Text.wp_region_text (fun w' => w'.cell? ⟨g, 0, none⟩ = some (.slice (some ⟨gA, oA, none⟩) n c) ∧ w'.cell? ⟨g, 1, none⟩ = some (.int .i64 (p : Int)) ∧ w'.cell? ⟨gA, oA + p, none⟩ = some (B y)) [(0, 4), (1, 4), (2, 4), (4, 4), (5, 4), (6, 4), (3, 0), (7, 0), (8, 4), (9, 0), (10, 4)] (by kernel_rfl) (by kernel_rfl) (fun _ _ _ _ _ h => h) (⟨hrd.out.1.get (j := 0) rfl, hrd.out.1.get (j := 1) rfl, HCE.out⟩) ?_
       iterate 6 (refine Text.purek rfl rfl (fun K hK => ⟨_, fun w' => by go_simp <;> rfl, ?_⟩); go_simp; refine hK _ ?_; clear hK K)
       iterate 2 (refine Text.heldk rfl rfl (fun K hK => ⟨_, fun w' hw' => by go_simp <;> rfl, ?_⟩); go_simp; refine hK _ ?_; clear hK K)
       (refine Text.purek rfl rfl (fun K hK => ⟨_, fun w' => by go_simp <;> rfl, ?_⟩); go_simp; refine hK _ ?_; clear hK K)
       (refine Text.heldk rfl rfl (fun K hK => ⟨_, fun w' hw' => by go_simp <;> rfl, ?_⟩); go_simp; refine hK _ ?_; clear hK K)
       (refine Text.purek rfl rfl (fun K hK => ⟨_, fun w' => by go_simp <;> rfl, ?_⟩); go_simp; refine hK _ ?_; clear hK K)
       refine Text.done ?_
       have q1 : wx.drew.drew.cell? ⟨g, 1, none⟩ = some (.int .i64 (p : Int)) := hrd.out.1.get (j := 1) rfl
       go_wp2_with (first
        | ((with_reducible show OpN); refine wpList_store1 _ rfl 3 (.tmp 35) (.tmp 33) rfl (sz1 _ (by kernel_rfl) _) g 1 _ _ (.int .i64 ((p + 1 : Nat) : Int)) rfl (by go_simp) hrd.out.1 rfl rfl (by simp) ?_; intro w3 y1 y2 y3; have HRD3 := Lib.hid (hrd.out.drew.drew.set (off' := ((p + 1 : Nat) : Int)) (last' := last) (err' := 0) y2 y1); have HK3 := Lib.hid ((Kp.drew (Kp.drew hk.out)).trans y2); clear y1 y2 y3)
        | ((with_reducible show OpW 39); refine wpList_convN _ rfl (.tmp 38) 5 98 rfl _ .u8 .u64 Tryz.underlying5 Tryz.underlying98 (y.toNat % 128) _ rfl (by unfold bv; rw [and127_nat]) (wrapU _ (by omega)) ?_)
        | ((with_reducible show OpW 42); refine wpList_shlN _ rfl (.tmp 39) (.tmp 41) _ _ rfl .i64 (y.toNat % 128) (7 * i) _ _ rfl rfl rfl (by omega) (by omega) HX.out ?_)
        | ((with_reducible show OpW 43); refine wpList_orN _ rfl (.tmp 36) (.tmp 42) _ _ rfl z (y.toNat % 128 * 2 ^ (7 * i)) _ _ rfl rfl rfl rfl hzb.out HX.out ?_)
        | fail)
       go_ret2
       exact ⟨_, 0, i + 1, rfl, .inl ⟨rfl, by rw [HNM.out, or_add hnn.out]⟩, by have := HPO.out; omega, by have h9 := HRD3.out; rwa [HPO.out, Nat.add_assoc] at h9, HK3.out⟩
     ·
      obtain rfl : i = 9 := by omega
      by_cases hz : y.toNat = 0
      ·
       have f3 : (bv y == 0) = true := by rw [bv_nat, hz]; rfl
       have HNM : Hid (num (b.drop off) = none) := Lib.hid (by rw [hnum.out, HD.out, HF.out, numG_bad HB.out (.inl ⟨by omega, hz⟩)])
       clear hz
       go_wp2_with fail
       refine Text.wp_region_text (fun w' => w'.cell? ⟨g, 0, none⟩ = some (.slice (some ⟨gA, oA, none⟩) n c) ∧ w'.cell? ⟨g, 1, none⟩ = some (.int .i64 (p : Int))) [(0, 4), (1, 4), (2, 4), (4, 4), (5, 4), (6, 4), (3, 0), (7, 0), (8, 4), (9, 4)] (by kernel_rfl) (by kernel_rfl) (fun _ _ _ _ _ h => h) (⟨hrd.out.1.get (j := 0) rfl, hrd.out.1.get (j := 1) rfl⟩) ?_
       iterate 6 (refine Text.purek rfl rfl (fun K hK => ⟨_, fun w' => by go_simp <;> rfl, ?_⟩); go_simp; refine hK _ ?_; clear hK K)
       iterate 2 (refine Text.heldk rfl rfl (fun K hK => ⟨_, fun w' hw' => by go_simp <;> rfl, ?_⟩); go_simp; refine hK _ ?_; clear hK K)
       iterate 2 (refine Text.purek rfl rfl (fun K hK => ⟨_, fun w' => by go_simp <;> rfl, ?_⟩); go_simp; refine hK _ ?_; clear hK K)
       refine Text.done ?_
       go_wp2_with fail
       refine Text.wp_region_text (fun w' => w'.cell? ⟨g, 0, none⟩ = some (.slice (some ⟨gA, oA, none⟩) n c) ∧ w'.cell? ⟨g, 1, none⟩ = some (.int .i64 (p : Int)) ∧ w'.cell? ⟨gA, oA + p, none⟩ = some (B y)) [(0, 4), (1, 4), (2, 4), (4, 4), (5, 4), (6, 4), (3, 0), (7, 0), (8, 4), (9, 0), (10, 4)] (by kernel_rfl) (by kernel_rfl) (fun _ _ _ _ _ h => h) (⟨hrd.out.1.get (j := 0) rfl, hrd.out.1.get (j := 1) rfl, HCE.out⟩) ?_
       iterate 6 (refine Text.purek rfl rfl (fun K hK => ⟨_, fun w' => by go_simp <;> rfl, ?_⟩); go_simp; refine hK _ ?_; clear hK K)
       iterate 2 (refine Text.heldk rfl rfl (fun K hK => ⟨_, fun w' hw' => by go_simp <;> rfl, ?_⟩); go_simp; refine hK _ ?_; clear hK K)
       (refine Text.purek rfl rfl (fun K hK => ⟨_, fun w' => by go_simp <;> rfl, ?_⟩); go_simp; refine hK _ ?_; clear hK K)
       (refine Text.heldk rfl rfl (fun K hK => ⟨_, fun w' hw' => by go_simp <;> rfl, ?_⟩); go_simp; refine hK _ ?_; clear hK K)
       (refine Text.purek rfl rfl (fun K hK => ⟨_, fun w' => by go_simp <;> rfl, ?_⟩); go_simp; refine hK _ ?_; clear hK K)
       refine Text.done ?_
       have q1 : wx.drew.drew.cell? ⟨g, 1, none⟩ = some (.int .i64 (p : Int)) := hrd.out.1.get (j := 1) rfl
       go_wp2_with (first
        | ((with_reducible show OpN); refine wpList_store1 _ rfl 3 (.tmp 35) (.tmp 33) rfl (sz1 _ (by kernel_rfl) _) g 1 _ _ (.int .i64 ((p + 1 : Nat) : Int)) rfl (by go_simp) hrd.out.1 rfl rfl (by simp) ?_; intro w3 y1 y2 y3; have HRD3 := Lib.hid (hrd.out.drew.drew.set (off' := ((p + 1 : Nat) : Int)) (last' := last) (err' := 0) y2 y1); have HK3 := Lib.hid ((Kp.drew (Kp.drew hk.out)).trans y2); clear y1 y2 y3)
        | ((with_reducible show OpW 39); refine wpList_convN _ rfl (.tmp 38) 5 98 rfl _ .u8 .u64 Tryz.underlying5 Tryz.underlying98 (y.toNat % 128) _ rfl (by unfold bv; rw [and127_nat]) (wrapU _ (by omega)) ?_)
        | ((with_reducible show OpW 42); refine wpList_shlA _ rfl (.tmp 39) (.tmp 41) _ _ rfl .i64 63 _ _ rfl rfl (by omega) ?_; intro Z hZ; have HZ := Lib.hid hZ; clear hZ)
        | ((with_reducible show OpW 43); refine wpList_orN _ rfl (.tmp 36) (.tmp 42) _ _ rfl z Z _ _ rfl rfl rfl rfl hzb.out HZ.out ?_)
        | fail)
       go_ret2
       exact ⟨0, 3, 9 + 1, rfl, .inr ⟨rfl, rfl, HNM.out⟩, by have := HPO.out; omega, by have h9 := HRD3.out; rwa [HPO.out, Nat.add_assoc] at h9, HK3.out⟩
      ·
       have f3 : (bv y == 0) = false := by rw [bv_nat, beq_eq_false_iff_ne]; omega
       by_cases h1 : 1 < y.toNat
       ·
        have f5 : decide ((1 : Int) < bv y) = true := decide_eq_true (by rw [bv_nat]; omega)
        have HNM : Hid (num (b.drop off) = none) := Lib.hid (by rw [hnum.out, HD.out, HF.out, numG_bad HB.out (.inr ⟨rfl, h1⟩)])
        clear hz h1
        go_wp2_with fail
        refine Text.wp_region_text (fun w' => w'.cell? ⟨g, 0, none⟩ = some (.slice (some ⟨gA, oA, none⟩) n c) ∧ w'.cell? ⟨g, 1, none⟩ = some (.int .i64 (p : Int))) [(0, 4), (1, 4), (2, 4), (4, 4), (5, 4), (6, 4), (3, 0), (7, 0), (8, 4), (9, 4)] (by kernel_rfl) (by kernel_rfl) (fun _ _ _ _ _ h => h) (⟨hrd.out.1.get (j := 0) rfl, hrd.out.1.get (j := 1) rfl⟩) ?_
        iterate 6 (refine Text.purek rfl rfl (fun K hK => ⟨_, fun w' => by go_simp <;> rfl, ?_⟩); go_simp; refine hK _ ?_; clear hK K)
        iterate 2 (refine Text.heldk rfl rfl (fun K hK => ⟨_, fun w' hw' => by go_simp <;> rfl, ?_⟩); go_simp; refine hK _ ?_; clear hK K)
        iterate 2 (refine Text.purek rfl rfl (fun K hK => ⟨_, fun w' => by go_simp <;> rfl, ?_⟩); go_simp; refine hK _ ?_; clear hK K)
        refine Text.done ?_
        go_wp2_with fail
        refine Text.wp_region_text (fun w' => w'.cell? ⟨g, 0, none⟩ = some (.slice (some ⟨gA, oA, none⟩) n c) ∧ w'.cell? ⟨g, 1, none⟩ = some (.int .i64 (p : Int)) ∧ w'.cell? ⟨gA, oA + p, none⟩ = some (B y)) [(0, 4), (1, 4), (2, 4), (4, 4), (5, 4), (6, 4), (3, 0), (7, 0), (8, 4), (9, 0), (10, 4)] (by kernel_rfl) (by kernel_rfl) (fun _ _ _ _ _ h => h) (⟨hrd.out.1.get (j := 0) rfl, hrd.out.1.get (j := 1) rfl, HCE.out⟩) ?_
        iterate 6 (refine Text.purek rfl rfl (fun K hK => ⟨_, fun w' => by go_simp <;> rfl, ?_⟩); go_simp; refine hK _ ?_; clear hK K)
        iterate 2 (refine Text.heldk rfl rfl (fun K hK => ⟨_, fun w' hw' => by go_simp <;> rfl, ?_⟩); go_simp; refine hK _ ?_; clear hK K)
        (refine Text.purek rfl rfl (fun K hK => ⟨_, fun w' => by go_simp <;> rfl, ?_⟩); go_simp; refine hK _ ?_; clear hK K)
        (refine Text.heldk rfl rfl (fun K hK => ⟨_, fun w' hw' => by go_simp <;> rfl, ?_⟩); go_simp; refine hK _ ?_; clear hK K)
        (refine Text.purek rfl rfl (fun K hK => ⟨_, fun w' => by go_simp <;> rfl, ?_⟩); go_simp; refine hK _ ?_; clear hK K)
        refine Text.done ?_
        have q1 : wx.drew.drew.cell? ⟨g, 1, none⟩ = some (.int .i64 (p : Int)) := hrd.out.1.get (j := 1) rfl
        go_wp2_with (first
         | ((with_reducible show OpN); refine wpList_store1 _ rfl 3 (.tmp 35) (.tmp 33) rfl (sz1 _ (by kernel_rfl) _) g 1 _ _ (.int .i64 ((p + 1 : Nat) : Int)) rfl (by go_simp) hrd.out.1 rfl rfl (by simp) ?_; intro w3 y1 y2 y3; have HRD3 := Lib.hid (hrd.out.drew.drew.set (off' := ((p + 1 : Nat) : Int)) (last' := last) (err' := 0) y2 y1); have HK3 := Lib.hid ((Kp.drew (Kp.drew hk.out)).trans y2); clear y1 y2 y3)
         | ((with_reducible show OpW 39); refine wpList_convN _ rfl (.tmp 38) 5 98 rfl _ .u8 .u64 Tryz.underlying5 Tryz.underlying98 (y.toNat % 128) _ rfl (by unfold bv; rw [and127_nat]) (wrapU _ (by omega)) ?_)
         | ((with_reducible show OpW 42); refine wpList_shlA _ rfl (.tmp 39) (.tmp 41) _ _ rfl .i64 63 _ _ rfl rfl (by omega) ?_; intro Z hZ; have HZ := Lib.hid hZ; clear hZ)
         | ((with_reducible show OpW 43); refine wpList_orN _ rfl (.tmp 36) (.tmp 42) _ _ rfl z Z _ _ rfl rfl rfl rfl hzb.out HZ.out ?_)
         | fail)
        go_ret2
        exact ⟨0, 3, 9 + 1, rfl, .inr ⟨rfl, rfl, HNM.out⟩, by have := HPO.out; omega, by have h9 := HRD3.out; rwa [HPO.out, Nat.add_assoc] at h9, HK3.out⟩
       ·
        have f5 : decide ((1 : Int) < bv y) = false := decide_eq_false (by rw [bv_nat]; omega)
        have HX : Hid (y.toNat % 128 * 2 ^ (7 * 9) < 18446744073709551616) := Lib.hid (fit64 (.inr ⟨rfl, by omega⟩))
        have HNM : Hid (num (b.drop off) = some (z + (y.toNat % 128) * 2 ^ (7 * 9), 9 + 1)) := Lib.hid (by rw [hnum.out, HD.out, HF.out, numG_end HB.out (by omega)])
        clear hz h1
        go_wp2_with fail
        refine Text.wp_region_text (fun w' => w'.cell? ⟨g, 0, none⟩ = some (.slice (some ⟨gA, oA, none⟩) n c) ∧ w'.cell? ⟨g, 1, none⟩ = some (.int .i64 (p : Int))) [(0, 4), (1, 4), (2, 4), (4, 4), (5, 4), (6, 4), (3, 0), (7, 0), (8, 4), (9, 4)] (by kernel_rfl) (by kernel_rfl) (fun _ _ _ _ _ h => h) (⟨hrd.out.1.get (j := 0) rfl, hrd.out.1.get (j := 1) rfl⟩) ?_
        iterate 6 (refine Text.purek rfl rfl (fun K hK => ⟨_, fun w' => by go_simp <;> rfl, ?_⟩); go_simp; refine hK _ ?_; clear hK K)
        iterate 2 (refine Text.heldk rfl rfl (fun K hK => ⟨_, fun w' hw' => by go_simp <;> rfl, ?_⟩); go_simp; refine hK _ ?_; clear hK K)
        iterate 2 (refine Text.purek rfl rfl (fun K hK => ⟨_, fun w' => by go_simp <;> rfl, ?_⟩); go_simp; refine hK _ ?_; clear hK K)
        refine Text.done ?_
        go_wp2_with fail
        refine Text.wp_region_text (fun w' => w'.cell? ⟨g, 0, none⟩ = some (.slice (some ⟨gA, oA, none⟩) n c) ∧ w'.cell? ⟨g, 1, none⟩ = some (.int .i64 (p : Int)) ∧ w'.cell? ⟨gA, oA + p, none⟩ = some (B y)) [(0, 4), (1, 4), (2, 4), (4, 4), (5, 4), (6, 4), (3, 0), (7, 0), (8, 4), (9, 0), (10, 4)] (by kernel_rfl) (by kernel_rfl) (fun _ _ _ _ _ h => h) (⟨hrd.out.1.get (j := 0) rfl, hrd.out.1.get (j := 1) rfl, HCE.out⟩) ?_
        iterate 6 (refine Text.purek rfl rfl (fun K hK => ⟨_, fun w' => by go_simp <;> rfl, ?_⟩); go_simp; refine hK _ ?_; clear hK K)
        iterate 2 (refine Text.heldk rfl rfl (fun K hK => ⟨_, fun w' hw' => by go_simp <;> rfl, ?_⟩); go_simp; refine hK _ ?_; clear hK K)
        (refine Text.purek rfl rfl (fun K hK => ⟨_, fun w' => by go_simp <;> rfl, ?_⟩); go_simp; refine hK _ ?_; clear hK K)
        (refine Text.heldk rfl rfl (fun K hK => ⟨_, fun w' hw' => by go_simp <;> rfl, ?_⟩); go_simp; refine hK _ ?_; clear hK K)
        (refine Text.purek rfl rfl (fun K hK => ⟨_, fun w' => by go_simp <;> rfl, ?_⟩); go_simp; refine hK _ ?_; clear hK K)
        refine Text.done ?_
        have q1 : wx.drew.drew.cell? ⟨g, 1, none⟩ = some (.int .i64 (p : Int)) := hrd.out.1.get (j := 1) rfl
        go_wp2_with (first
         | ((with_reducible show OpN); refine wpList_store1 _ rfl 3 (.tmp 35) (.tmp 33) rfl (sz1 _ (by kernel_rfl) _) g 1 _ _ (.int .i64 ((p + 1 : Nat) : Int)) rfl (by go_simp) hrd.out.1 rfl rfl (by simp) ?_; intro w3 y1 y2 y3; have HRD3 := Lib.hid (hrd.out.drew.drew.set (off' := ((p + 1 : Nat) : Int)) (last' := last) (err' := 0) y2 y1); have HK3 := Lib.hid ((Kp.drew (Kp.drew hk.out)).trans y2); clear y1 y2 y3)
         | ((with_reducible show OpW 39); refine wpList_convN _ rfl (.tmp 38) 5 98 rfl _ .u8 .u64 Tryz.underlying5 Tryz.underlying98 (y.toNat % 128) _ rfl (by unfold bv; rw [and127_nat]) (wrapU _ (by omega)) ?_)
         | ((with_reducible show OpW 42); refine wpList_shlN _ rfl (.tmp 39) (.tmp 41) _ _ rfl .i64 (y.toNat % 128) (7 * 9) _ _ rfl rfl rfl (by omega) (by omega) HX.out ?_)
         | ((with_reducible show OpW 43); refine wpList_orN _ rfl (.tmp 36) (.tmp 42) _ _ rfl z (y.toNat % 128 * 2 ^ (7 * 9)) _ _ rfl rfl rfl rfl hzb.out HX.out ?_)
         | fail)
        go_ret2
        exact ⟨_, 0, 9 + 1, rfl, .inl ⟨rfl, by rw [HNM.out, or_add hnn.out]⟩, by have := HPO.out; omega, by have h9 := HRD3.out; rwa [HPO.out, Nat.add_assoc] at h9, HK3.out⟩
   ·
    have hoe : (p : Int) = (n : Int) := by omega
    have e1 : ((p : Int) == (n : Int)) = true := by rw [hoe]; simp
    go_wp2_with fail
    refine Text.wp_region_text (fun w' => w'.cell? ⟨g, 0, none⟩ = some (.slice A n c) ∧ w'.cell? ⟨g, 1, none⟩ = some (.int .i64 (p : Int))) [(0, 4), (1, 4), (2, 4), (4, 4), (5, 4), (6, 4), (3, 0), (7, 0), (8, 4), (9, 4)] (by kernel_rfl) (by kernel_rfl) (fun _ _ _ _ _ h => h) (⟨hrd.out.1.get (j := 0) rfl, hrd.out.1.get (j := 1) rfl⟩) ?_
    iterate 6 (refine Text.purek rfl rfl (fun K hK => ⟨_, fun w' => by go_simp <;> rfl, ?_⟩); go_simp; refine hK _ ?_; clear hK K)
    iterate 2 (refine Text.heldk rfl rfl (fun K hK => ⟨_, fun w' hw' => by go_simp <;> rfl, ?_⟩); go_simp; refine hK _ ?_; clear hK K)
    iterate 2 (refine Text.purek rfl rfl (fun K hK => ⟨_, fun w' => by go_simp <;> rfl, ?_⟩); go_simp; refine hK _ ?_; clear hK K)
    refine Text.done ?_
    go_wp2_with fail
    go_ret2
    refine ⟨0, 3, i, rfl, .inr ⟨rfl, rfl, ?_⟩, by rw [← HPO.out]; exact hoi, by rw [← HPO.out]; exact hrd.out, hk.out.drew⟩
    rw [hnum.out, List.drop_eq_nil_of_le (by rw [HBL.out]; omega), numG_nil]
  ·
   obtain rfl : i = 10 := by omega
   go_wp2_with fail
   go_ret2
   exact ⟨0, 3, 10, rfl, .inr ⟨rfl, rfl, by rw [hnum.out]; rfl⟩, by rw [← HPO.out]; exact hoi, by rw [← HPO.out]; exact hrd.out, hk.out⟩
end
end Go.Proofs.YtheijpjfpaghfaaGreatDoor
