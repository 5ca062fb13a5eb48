/- Several texts in one: Rsm, Ari2, Rtg, Rnu, Rnv. -/
import Derived.Test.YtgoefpbicohkfaaGreatDoorC9
import Derived.Test.YtgoefpbicohkfaaGreatDoorC11
import Derived.Test.YtgoefpbicohkfaaGreatDoorC6
import Derived.Test.YtgoefpbicohkfaaGreatDoorC4
import Derived.Test.YtgoefpbicohkfaaGreatDoorC7
import Derived.Test.YtgoefpbicohkfaaGreatDoorC8
/- Contract of ref03.Sum. -/
namespace Go.Proofs.YtgoefpbicohkfaaGreatDoor
open Go Go.RowKit Gf Sha

theorem pad_length (l : List UInt8) : (l ++ padding l.length).length = l.length + (zr l.length + 9) := by
  rw [List.length_append, padding_padc, padc_length]
theorem hk_succ (k : Nat) (l : List UInt8) : hk (k + 1) l = comp (hk k l) ((l.drop (64 * k)).take 64) := rfl
theorem pad64 (n : Nat) : (n + (zr n + 9)) % 64 = 0 := by have := zr_end n; omega
theorem ini_vals : (#[Value.int .u32 1779033703, .int .u32 3144134277, .int .u32 1013904242, .int .u32 2773480762, .int .u32 1359893119, .int .u32 2600822924, .int .u32 528734635, .int .u32 1541459225] : Array Value) = ini.cells.toArray := by kernel_rfl
attribute [local go_sem] Sha.conv_b Sha.sh24 Sha.sh16 Sha.sh8

set_option maxRecDepth 100000 in
set_option maxHeartbeats 4000000 in
theorem refsum_any (A : Option Addr) (n c : Nat) (l : List UInt8) (w : World) (h : BS w A n c l) (hN : n ≤ 1048576) :
    Calls Tryz.prog 67 #[.slice A n c] w fun e w' => e = .returned (.string (strB (sha l))) ∧ Below w.heap.size w w' := by
  have HLN := Lib.hid h.1
  have H := Lib.hid h
  clear h
  go_enter Tryz.func67, Tryz.ntmps67
  go_wp2_with (first
    | ((with_reducible show wpList _ _ _ (⟨some 3, _, _, _, _, _⟩ :: _) _ _); refine wpList_alloc _ rfl 123 rfl (List.replicate 8 (.int .u32 0)) zero8 ?_; intro w1 a1 a2 a3; have HV1 := Lib.hid a1; have HB1 := Lib.hid a2; have HZ1 := Lib.hid a3; clear a1 a2 a3)
    | ((with_reducible show wpList _ _ _ (⟨none, _, _, _, _, _⟩ :: _) _ _); refine wpList_storev _ rfl 123 (.tmp 3) (.tmp 8) rfl 8 (by kernel_rfl) w.heap.size 0 _ (List.replicate 8 (.int .u32 0)) ini.cells rfl (by rw [← ini_vals]; rfl) HV1.out (cells_length _) (scells_one _) (by decide) ?_; intro w2 a1 a2 a3; rw [splice_all (List.replicate 8 (.int .u32 0)) ini.cells (by rw [cells_length, List.length_replicate])] at a1; have HV2 := Lib.hid a1; have HK2 := Lib.hid a2; have HZ2 := Lib.hid a3; have HB2 : Hid (Below w.heap.size w w2) := Lib.hid (((Kp.of_below (S := fun _ => False) HB1.out).after HK2.out (fun i hi e => by omega)).below (Nat.le_refl _) (fun _ h => h.elim)); clear a1 a2 a3)
    | (go_at_call 85; refine (rpad_any A n c l w2 (H.out.kept HB2.out) hN).mono ?_; rintro e w3 ⟨⟨g, m, c', rfl, hm, o⟩, b⟩; have HM := Lib.hid hm; have HO3 := Lib.hid o; have HB3 := Lib.hid b; clear hm o b))
  have hm1 : m ≤ 1048700 := by have := HM.out; have := zr_lt n; omega
  have hm64 : m % 64 = 0 := by rw [HM.out]; exact pad64 n
  obtain ⟨P, hP⟩ : ∃ P, P = l ++ padding n := ⟨_, rfl⟩
  rw [← hP] at HO3
  have HP := Lib.hid hP
  obtain ⟨A3, c3, e3, hb3⟩ := BS.of_own HO3.out (by unfold lim; omega)
  cases e3
  have HPB := Lib.hid hb3
  have hmc : m ≤ c' := hb3.2.1
  have HV3 := Lib.hid (HV2.out.kept HB3.out)
  have HGN : Hid (g ≠ w.heap.size) := Lib.hid (by have := own_base HO3.out g rfl; have := HZ1.out; have := HZ2.out; omega)
  have HSZ3 : Hid (w.heap.size < w3.heap.size) := Lib.hid (by have := HZ1.out; have := HZ2.out; have := HB3.out.size; omega)
  have hm0 : 0 ≤ (m : Int) := by omega
  clear hP hb3 HV1 HB1 HV2 HK2
  go_wp2_with fail
  go_loopw [5] (fun iv wr => ∃ k q : Nat, q ≤ m ∧ iv = .int .i64 (q : Int) ∧ Hid (q = 64 * k) ∧ Hid (BL wr w.heap.size 123 (hk k P).cells) ∧ Hid (Kp (· = w.heap.size) w3 wr)) (fun iv _ => m - (intOf iv).toNat)
  case atStart => exact ⟨0, 0, by omega, rfl, Lib.hid rfl, HV3, Lib.hid (Kp.refl _ _)⟩
  case round =>
    obtain ⟨k, q, hqm, rfl, hq, hb, hkp⟩ := hrel
    obtain ⟨wx, hwx⟩ : ∃ x, x = wr := ⟨_, rfl⟩
    rw [← hwx] at hb hkp ⊢
    clear hwx
    by_cases hlt : q < m
    · have hq64 : q + 64 ≤ m := by have := hq.out; omega
      obtain ⟨q2, hq2⟩ : ∃ x, x = q + 64 := ⟨_, rfl⟩
      have f1 : IntKind.i64.wrap ((q : Int) + 64) = (q2 : Int) := by rw [IntWalk.i64_in _ (by omega)]; omega
      have f2 : q ≤ q2 := by omega
      have f3 : (q2 : Int) ≤ (c' : Int) := by omega
      have f4 : q2 - q = 64 := by omega
      have f5 : ¬ c' = q := by omega
      have f6 : q2 ≤ c' := by omega
      have f7 : (q : Int) < (m : Int) := by omega
      have HBx : Hid (BS wx (some ⟨g, q, none⟩) 64 (c' - q) ((P.drop (64 * k)).take 64)) := Lib.hid (by
        have h1 := ((HPB.out.kpf hkp.out (fun g' o' _ e e2 => by cases e; exact HGN.out e2)).cut (k := q) (by omega)).pre (k := 64) (by omega)
        rw [cutA, if_neg f5, Option.map_some, addr_add, Nat.zero_add, hq.out] at h1
        rw [hq.out]
        exact h1)
      clear hq2
      go_wp2_with fail
      refine Text.wp_region_text (fun w' => Below wx.heap.size wx w') [(1, 4), (2, 4), (3, 4), (4, 4), (5, 4), (0, 0), (6, 2), (7, 3)] (by kernel_rfl) (by kernel_rfl) (fun _ _ _ _ _ h => h) ((Below.refl _ _).drew) ?_
      iterate 5 (refine Text.purek rfl rfl (fun K hK => ⟨_, fun w' => by go_simp <;> rfl, ?_⟩); go_simp; refine hK _ ?_; clear hK K)
      refine Text.heldk rfl rfl (fun K hK => ?_)
      refine ⟨_, fun w' hw' => exec_loadv 123 (.tmp 3) rfl 8 (by kernel_rfl) w.heap.size 0 (hk k P).cells rfl (BL.all (hb.out.kept hw')) (cells_length _), ?_⟩
      go_simp
      refine hK _ ?_
      clear hK K
      refine Text.eff rfl rfl (fun K hK => ?_)
      go_simp
      refine (rblock_any _ (c' - q) (hk k P) ((P.drop (64 * k)).take 64) wx.drew HBx.out.drew).mono ?_
      rintro e w4 ⟨rfl, b4⟩
      have HB4 : Hid (Below wx.heap.size wx w4) := Lib.hid ((Below.refl _ _).drew.trans (b4.mono (Nat.le_refl _)))
      refine hK _ _ HB4.out ?_
      clear hK K b4
      refine Text.last rfl rfl (fun K hK => ?_)
      refine wp_storev 123 (.tmp 3) (.tmp 23) rfl 8 (by kernel_rfl) w.heap.size 0 _ (hk k P).cells (comp (hk k P) ((P.drop (64 * k)).take 64)).cells rfl rfl (hb.out.kept HB4.out) (cells_length _) (scells_one _) (Nat.le_refl 8) ?_
      intro w5 a1 a2 a3
      rw [splice_all (hk k P).cells (comp (hk k P) ((P.drop (64 * k)).take 64)).cells (by rw [cells_length, cells_length]), ← hk_succ] at a1
      have HB5 := Lib.hid a1
      have HK5 : Hid (Kp (· = w.heap.size) w3 w5) := Lib.hid ((hkp.out.then HB4.out).trans a2)
      refine hK _ _ ?_
      clear hK K a1 a2 a3
      refine Text.done ?_
      go_wp2_with fail
      go_roundw
      case rel => exact ⟨k + 1, q2, by omega, by go_num, Lib.hid (by have := hq.out; omega), HB5, HK5⟩
      case measure => simp [intOf]; omega
    · have hqe : q = m := by omega
      have HS : Hid (hk k P = hs P) := Lib.hid (by
        have h1 : P.length = m := HPB.out.1
        have h2 := hq.out
        rw [hs, h1, show m / 64 = k by omega])
      have HE : Hid (sha l = (hs P).bytes) := Lib.hid (by rw [sha, HLN.out, HP.out])
      obtain ⟨T, hT⟩ : ∃ T, T = hs P := ⟨_, rfl⟩
      rw [← hT] at HS HE
      rw [HS.out] at hb
      have HBx : Hid (Below w.heap.size w wx) := Lib.hid (((Kp.of_below (S := fun _ => False) (below_thenB HB2.out HB2.out.size HB3.out)).after hkp.out (fun i hi e => by omega)).below (Nat.le_refl _) (fun _ h => h.elim))
      have HV4 : Hid (BL (wx.alloc (.cells #[] 5)) w.heap.size 123 T.cells) := Lib.hid (hb.out.kept ((Below.refl _ _).alloc (Nat.le_refl _) _))
      have HO4 : Hid ((wx.alloc (.cells #[] 5)).ownsRow wx.heap.size 5 1 (.slice (some ⟨wx.heap.size, 0, none⟩) 0 0) 0 ((outb T 0).map B)) := Lib.hid (BL.own (BL.new wx 5 []) (Nat.le_refl _) rfl (by decide))
      have HX4 : Hid (Below wx.heap.size wx (wx.alloc (.cells #[] 5))) := Lib.hid ((Below.refl _ _).alloc (Nat.le_refl _) _)
      have HVL : Hid (w.heap.size < wx.heap.size) := Lib.hid hb.out.lt
      have f7 : ¬ ((q : Int) < (m : Int)) := by omega
      clear hT hb hkp HV3 HPB HO3
      go_wp2_with fail
      go_loopw [6, 7] (fun v iv wy => ∃ (k m g9 c9 : Nat), k ≤ 8 ∧ m ≤ 32 ∧ iv = .int .i64 (k : Int) ∧ v = .slice (some ⟨g9, 0, none⟩) m c9 ∧ Hid (m = 4 * k) ∧ Hid (wy.ownsRow wx.heap.size 5 1 (.slice (some ⟨g9, 0, none⟩) m c9) m ((outb T k).map B)) ∧ Hid (Below wx.heap.size wx wy) ∧ Hid (BL wy w.heap.size 123 T.cells)) (fun _ iv _ => 8 - (intOf iv).toNat)
      case atStart => exact ⟨0, 0, _, _, by omega, by omega, rfl, rfl, Lib.hid rfl, HO4, HX4, HV4⟩
      case round =>
        obtain ⟨k, m, g9, c9, hk8, hm32, rfl, rfl, hmk, ho9, hb9, hv9⟩ := hrel
        obtain ⟨wy, hwy⟩ : ∃ x, x = wr := ⟨_, rfl⟩
        rw [← hwy] at ho9 hb9 hv9 ⊢
        clear hwy
        by_cases hlt : k < 8
        · obtain ⟨x, hx⟩ : ∃ x, x = sw T k := ⟨_, rfl⟩
          have c1 : wy.cell? ⟨w.heap.size, k, none⟩ = some (W x) := by rw [hx]; exact hv9.out.get (cells_sw T k hlt)
          have HXX := Lib.hid hx
          have p6 : (k : Int) < 8 := by omega
          clear hx
          have hm28 : m ≤ 28 := by have := hmk.out; omega
          go_wp2_with fail
          refine Text.wp_region_text (fun _ => True) [(0, 4), (1, 4), (2, 4), (6, 4), (7, 4), (11, 4), (12, 4), (16, 4), (17, 4), (3, 1), (4, 4), (5, 4), (8, 1), (9, 4), (10, 4), (13, 1), (14, 4), (15, 4), (18, 1), (19, 4), (20, 2), (21, 2), (22, 4)] (by kernel_rfl) (by kernel_rfl) (fun _ _ _ _ _ h => h) (trivial) ?_
          iterate 9 (refine Text.purek rfl rfl (fun K hK => ⟨_, fun w' => by go_simp <;> rfl, ?_⟩); go_simp; refine hK _ ?_; clear hK K)
          (refine Text.readk rfl rfl (fun K hK => ⟨_, by go_simp <;> rfl, ?_⟩); go_simp; refine hK _ ?_; clear hK K)
          iterate 2 (refine Text.purek rfl rfl (fun K hK => ⟨_, fun w' => by go_simp <;> rfl, ?_⟩); go_simp; refine hK _ ?_; clear hK K)
          (refine Text.readk rfl rfl (fun K hK => ⟨_, by go_simp <;> rfl, ?_⟩); go_simp; refine hK _ ?_; clear hK K)
          iterate 2 (refine Text.purek rfl rfl (fun K hK => ⟨_, fun w' => by go_simp <;> rfl, ?_⟩); go_simp; refine hK _ ?_; clear hK K)
          (refine Text.readk rfl rfl (fun K hK => ⟨_, by go_simp <;> rfl, ?_⟩); go_simp; refine hK _ ?_; clear hK K)
          iterate 2 (refine Text.purek rfl rfl (fun K hK => ⟨_, fun w' => by go_simp <;> rfl, ?_⟩); go_simp; refine hK _ ?_; clear hK K)
          (refine Text.readk rfl rfl (fun K hK => ⟨_, by go_simp <;> rfl, ?_⟩); go_simp; refine hK _ ?_; clear hK K)
          (refine Text.purek rfl rfl (fun K hK => ⟨_, fun w' => by go_simp <;> rfl, ?_⟩); go_simp; refine hK _ ?_; clear hK K)
          refine Text.eff rfl rfl (fun K hK => ?_)
          go_simp
          refine hK _ _ trivial ?_
          clear hK K
          refine Text.eff rfl rfl (fun K hK => ?_)
          have HOD : Hid (wy.drew.ownsRow wx.heap.size 5 1 (.slice (some ⟨g9, 0, none⟩) m c9) m ((outb T k).map B)) := Lib.hid ho9.out
          have HOO := Lib.hid (HOD.out.kept (World.grownBy_alloc wy.drew (.cells #[B (x >>> 24).toUInt8, B (x >>> 16).toUInt8, B (x >>> 8).toUInt8, B x.toUInt8] 5) none) (by simp [Value.ownBlock]))
          have HBB := Lib.hid (hb9.out.drew.alloc (by exact hb9.out.size) (.cells #[B (x >>> 24).toUInt8, B (x >>> 16).toUInt8, B (x >>> 8).toUInt8, B x.toUInt8] 5))
          have HBK : Hid (BS (wy.drew.alloc (.cells #[B (x >>> 24).toUInt8, B (x >>> 16).toUInt8, B (x >>> 8).toUInt8, B x.toUInt8] 5)) (some ⟨wy.heap.size, 0, none⟩) 4 4 (bytes4 x)) := Lib.hid (BL.bs (l := bytes4 x) (BL.new wy.drew 5 ((bytes4 x).map B)) rfl (by decide))
          have HSB : Hid (wx.heap.size ≤ (wy.drew.alloc (.cells #[B (x >>> 24).toUInt8, B (x >>> 16).toUInt8, B (x >>> 8).toUInt8, B x.toUInt8] 5)).heap.size) := Lib.hid (by have := hb9.out.size; simp; omega)
          have HVV := Lib.hid (hv9.out.drew.kept ((Below.refl _ _).alloc (Nat.le_refl _) (.cells #[B (x >>> 24).toUInt8, B (x >>> 16).toUInt8, B (x >>> 8).toUInt8, B x.toUInt8] 5)))
          refine wp_appB _ (.tmp 29) (.tmp 49) rfl wx.heap.size _ m _ rfl HOO.out _ 4 4 (bytes4 x) rfl HBK.out (by omega) HSB.out ?_
          intro v6 w6 hp
          obtain ⟨g6, c6, rfl⟩ := hp.form (by omega)
          have HO6 : Hid (w6.ownsRow wx.heap.size 5 1 (.slice (some ⟨g6, 0, none⟩) (m + 4) c6) (m + 4) ((outb T (k + 1)).map B)) := Lib.hid (by have := hp.own; rw [outb, ← HXX.out]; exact this)
          have HB6 := Lib.hid (hp.below HOO.out HBB.out (Nat.le_refl _) HSB.out)
          have HV6 : Hid (BL w6 w.heap.size 123 T.cells) := Lib.hid (by
            have h1 := hp.below HOO.out (Below.refl wx.heap.size _) (Nat.le_refl _) HSB.out
            exact (h1.block _ HVL.out).trans HVV.out)
          refine hK _ _ trivial ?_
          clear hK K hp c1
          (refine Text.purek rfl rfl (fun K hK => ⟨_, fun w' => by go_simp <;> rfl, ?_⟩); go_simp; refine hK _ ?_; clear hK K)
          refine Text.done ?_
          go_wp2_with fail
          go_roundw
          case rel => exact ⟨k + 1, m + 4, _, _, by omega, by omega, by go_num, rfl, Lib.hid (by rw [hmk.out]; omega), HO6, HB6, HV6⟩
          case measure => simp [intOf]; omega
        · obtain rfl : k = 8 := by omega
          obtain ⟨A8, c8, e8, hb8⟩ := BS.of_own ho9.out (by have := hm32; unfold lim; omega)
          cases e8
          have cv := conv_str hb8
          go_wp2_with fail
          go_ret
          exact ⟨by rw [HE.out, ← outb_all]; rfl, below_thenB HBx.out HBx.out.size hb9.out⟩
end Go.Proofs.YtgoefpbicohkfaaGreatDoor
/- More operations on numbers that are casts of naturals; a byte of a string. Proved for any program. -/
namespace Go.Proofs.YtgoefpbicohkfaaGreatDoor
open Go Go.RowKit Gf

section
variable {P : Program} (w : World) {ops : Array Oper} {rest : List Oper} {o : Oper} {a : Act} {Q : Exit → Act → World → Prop}
theorem wrapU (n : Nat) (h : n < 18446744073709551616) : IntKind.u64.wrap (n : Int) = (n : Int) := by
  show (n : Int) % 18446744073709551616 = _; omega
/-- x << s. -/
theorem wpList_shlN (hg : o.guard = none) (x y : Operand) (t t2 : TypeId) (hop : o.op = .binOp .shl t x y t2) (ky : IntKind) (X s : Nat) (zx zy : Int) (hx : a.eval x = .int .u64 zx) (hy : a.eval y = .int ky zy) (hX : zx = (X : Int)) (hs : zy = (s : Int)) (hs64 : s ≤ 64) (hb : X * 2 ^ s < 18446744073709551616)
    (h : wpList P ops Q rest (a.put o.dst (.int .u64 ((X * 2 ^ s : Nat) : Int))) w) : wpList P ops Q (o :: rest) a w :=
  wpList_plain hg fun K hK => by
    subst hX hs
    have e : ∀ w', (binOp .shl t (.int .u64 (X : Int)) (.int ky (s : Int))).run P w' = .ok (.int .u64 ((X * 2 ^ s : Nat) : Int)) w' := fun w' => by
      have e3 : (X : Int) * 2 ^ min (s : Int).toNat IntKind.u64.bits = ((X * 2 ^ s : Nat) : Int) := by
        rw [Int.toNat_natCast, Nat.min_eq_left (by show s ≤ 64; exact hs64), Int.natCast_mul, Int.natCast_pow]; rfl
      show (Op.shift .shl .u64 (X : Int) ky (s : Int)).run P w' = _
      unfold Op.shift
      rw [if_neg (by omega)]
      show Result.ok (Value.int IntKind.u64 (IntKind.u64.wrap _)) w' = _
      rw [e3, wrapU _ hb]
    unfold Oper.wp execOp
    simp only [hop, hx, hy]
    simp [eqGuard, Result.andThen, e]
    exact hK _ _ (by simpa using h)
/-- x | y. -/
theorem wpList_orN (hg : o.guard = none) (x y : Operand) (t t2 : TypeId) (hop : o.op = .binOp .or t x y t2) (X Y : Nat) (zx zy : Int) (hx : a.eval x = .int .u64 zx) (hy : a.eval y = .int .u64 zy) (hX : zx = (X : Int)) (hY : zy = (Y : Int)) (hXb : X < 18446744073709551616) (hYb : Y < 18446744073709551616)
    (h : wpList P ops Q rest (a.put o.dst (.int .u64 ((X ||| Y : Nat) : Int))) w) : wpList P ops Q (o :: rest) a w :=
  wpList_plain hg fun K hK => by
    subst hX hY
    have e : ∀ w', (binOp .or t (.int .u64 (X : Int)) (.int .u64 (Y : Int))).run P w' = .ok (.int .u64 ((X ||| Y : Nat) : Int)) w' := fun w' => by
      have e2 := u64_or_nat X Y hXb hYb
      show Result.ok (Value.int IntKind.u64 (bits .or .u64 (X : Int) (Y : Int))) w' = _
      rw [e2]
    unfold Oper.wp execOp
    simp only [hop, hx, hy]
    simp [eqGuard, Result.andThen, e]
    exact hK _ _ (by simpa using h)
/-- x % y. -/
theorem wpList_remN (hg : o.guard = none) (x y : Operand) (t t2 : TypeId) (hop : o.op = .binOp .rem t x y t2) (X Y : Nat) (zx zy : Int) (hx : a.eval x = .int .u64 zx) (hy : a.eval y = .int .u64 zy) (hX : zx = (X : Int)) (hY : zy = (Y : Int)) (hY0 : 0 < Y)
    (h : wpList P ops Q rest (a.put o.dst (.int .u64 ((X % Y : Nat) : Int))) w) : wpList P ops Q (o :: rest) a w :=
  wpList_plain hg fun K hK => by
    subst hX hY
    have e : ∀ w', (binOp .rem t (.int .u64 (X : Int)) (.int .u64 (Y : Int))).run P w' = .ok (.int .u64 ((X % Y : Nat) : Int)) w' := fun w' => by
      have hne : ¬ Y = 0 := by omega
      show (Op.intDiv .rem .u64 (X : Int) (Y : Int)).run P w' = _
      unfold Op.intDiv
      simp [hne]
      exact Int.tmod_eq_emod_of_nonneg (by omega)
    unfold Oper.wp execOp
    simp only [hop, hx, hy]
    simp [eqGuard, Result.andThen, e]
    exact hK _ _ (by simpa using h)
/-- A number in another kind that holds it. -/
theorem wpList_convN (hg : o.guard = none) (x : Operand) (t t2 : TypeId) (hop : o.op = .convert t t2 x) (d : TypeDesc) (k k2 : IntKind) (ht : P.underlying t = some d) (ht2 : P.underlying t2 = some (.int k2)) (X : Nat) (zx : Int) (hx : a.eval x = .int k zx) (hX : zx = (X : Int)) (hw : k2.wrap (X : Int) = (X : Int))
    (h : wpList P ops Q rest (a.put o.dst (.int k2 (X : Int))) w) : wpList P ops Q (o :: rest) a w :=
  wpList_plain hg fun K hK => by
    subst hX
    unfold Oper.wp execOp
    simp only [hop, hx]
    simp [convert, run_underlying ht, run_underlying ht2, Conv.intToInt, Result.andThen, hw]
    exact hK _ _ h
/-- s[k]. -/
theorem wpList_idxS (hg : o.guard = none) (x y : Operand) (t : TypeId) (hop : o.op = .index t x y) (ht : P.underlying t = some .string) (l : List UInt8) (k : Nat) (zy : Int) (hx : a.eval x = .string (strB l)) (hy : a.eval y = .int .i64 zy) (hz : zy = (k : Int)) (hk : k < l.length)
    (h : wpList P ops Q rest (a.put o.dst (B (gB l k))) w) : wpList P ops Q (o :: rest) a w :=
  wpList_plain hg fun K hK => by
    subst hz
    have e : (strB l)[k]? = some (gB l k) := by
      have h1 : k < (strB l).size := hk
      rw [getElem?_pos (strB l) k h1, gB_eq hk]
      rfl
    unfold Oper.wp execOp
    simp only [hop, hx, hy]
    have hr : (Instr.index t (.string (strB l)) (.int .i64 (k : Int))).run P w = .ok (B (gB l k)) w := by
      unfold Instr.index
      rw [Sem.run_bind]
      simp only [asIntOf, Sem.run_pure, Result.andThen_ok, Sem.run_bind, run_underlying ht]
      rw [if_pos (by omega), Int.toNat_natCast, e]
      rfl
    simp [hr, Result.andThen]
    exact hK _ _ h
end
/-- A number out of bytes, the greatest first. -/
def beN (l : List UInt8) : Nat := l.foldl (fun v b => v * 256 + b.toNat) 0
theorem beN_snoc (l : List UInt8) (b : UInt8) : beN (l ++ [b]) = beN l * 256 + b.toNat := by simp [beN]
theorem beN_lt' (l : List UInt8) : ∀ v, l.foldl (fun v b => v * 256 + b.toNat) v < (v + 1) * 256 ^ l.length := by
  induction l with
  | nil => intro v; simp
  | cons b l ih =>
    intro v
    have h1 := ih (v * 256 + b.toNat)
    have h2 := b.toNat_lt
    rw [List.foldl_cons, List.length_cons, Nat.pow_succ]
    refine Nat.lt_of_lt_of_le h1 ?_
    rw [Nat.mul_comm (256 ^ l.length) 256, ← Nat.mul_assoc]
    exact Nat.mul_le_mul_right _ (by omega)
theorem beN_lt (l : List UInt8) : beN l < 256 ^ l.length := by
  have := beN_lt' l 0
  simpa [beN] using this
theorem or_low (x y : Nat) (h : y < 256) : x * 256 ||| y = x * 256 + y := by
  rw [Nat.mul_comm]
  exact (Nat.two_pow_add_eq_or_of_lt (i := 8) (by simpa using h) x).symm
end Go.Proofs.YtgoefpbicohkfaaGreatDoor
/- Contracts of ref05.pad and ref05.Tag for keys of at most 64 bytes. -/
namespace Go.Proofs.YtgoefpbicohkfaaGreatDoor
open Go Go.RowKit Gf Sha

theorem own_below {w w' : World} {base n : Nat} {e : TypeId} {v : Value} {xs : List Value} (h : w.ownsRow base e 1 v n xs) (hb : Below w.heap.size w w') : w'.ownsRow base e 1 v n xs :=
  (Kp.of_below (S := fun _ => False) hb).own h (fun _ _ h => h)
attribute [local go_sem] Gf.xor_bits
theorem xor0_b (x : UInt8) : bits .xor .u8 0 (bv x) = bv x := by
  have h := Gf.xor_bits 0 x
  have e : bv 0 = 0 := rfl
  rw [e] at h
  rw [h, UInt8.zero_xor]
attribute [local go_sem] xor0_b
theorem keyp_low {k : List UInt8} {j : Nat} (h : j < k.length) : gB (keyp k) j = gB k j := by
  rw [gB, gB, List.getD_eq_getElem?_getD, List.getD_eq_getElem?_getD, keyp, List.getElem?_append_left h]
theorem keyp_high {k : List UInt8} {j : Nat} (h : k.length ≤ j) : gB (keyp k) j = 0 := by
  rw [gB, List.getD_eq_getElem?_getD, keyp, List.getElem?_append_right h, List.getElem?_replicate]
  split <;> rfl
theorem xr_snoc (x : UInt8) (f : List UInt8) (k : Nat) (h : k < f.length) : (xr x f).take k ++ [gB f k ^^^ x] = (xr x f).take (k + 1) := by
  rw [List.take_succ_eq_append_getElem (by rw [xr_length]; exact h), gB_eq h]
  simp [xr]

set_option maxRecDepth 100000 in
set_option maxHeartbeats 1000000 in
theorem rpad5_any (key : List UInt8) (x : UInt8) (v : Value) (hv : v = B x) (w : World) (hk : key.length ≤ 64) :
    Calls Tryz.prog 68 #[.string (strB key), v] w fun e w' => (∃ g c', e = .returned (.slice (some ⟨g, 0, none⟩) 64 c') ∧ w'.ownsRow w.heap.size 5 1 (.slice (some ⟨g, 0, none⟩) 64 c') 64 ((xr x (keyp key)).map B)) ∧ Below w.heap.size w w' := by
  subst hv
  have HK := Lib.hid hk
  have HKL : Hid ((keyp key).length = 64) := Lib.hid (keyp_length key hk)
  have HO0 : Hid ((w.alloc (.cells #[] 5)).ownsRow w.heap.size 5 1 (.slice (some ⟨w.heap.size, 0, none⟩) 0 0) 0 (((xr x (keyp key)).take 0).map B)) := Lib.hid (BL.own (BL.new w 5 []) (Nat.le_refl _) rfl (by decide))
  have HX0 : Hid (Below w.heap.size w (w.alloc (.cells #[] 5))) := Lib.hid ((Below.refl _ _).alloc (Nat.le_refl _) _)
  clear hk
  go_enter Tryz.func68, Tryz.ntmps68
  go_wp2_with fail
  go_loopw [5, 6] (fun v i wr => ∃ (k g4 c4 : Nat), k ≤ 64 ∧ i = .int .i64 (k : Int) ∧ v = .slice (some ⟨g4, 0, none⟩) k c4 ∧ Hid (wr.ownsRow w.heap.size 5 1 (.slice (some ⟨g4, 0, none⟩) k c4) k (((xr x (keyp key)).take k).map B)) ∧ Hid (Below w.heap.size w wr)) (fun _ i _ => 64 - (intOf i).toNat)
  case atStart => exact ⟨0, _, _, by omega, rfl, rfl, HO0, HX0⟩
  case round =>
    obtain ⟨k, g4, c4, hk, rfl, rfl, ho, hb⟩ := hrel
    obtain ⟨wx, hwx⟩ : ∃ x, x = wr := ⟨_, rfl⟩
    rw [← hwx] at ho hb ⊢
    clear hwx
    by_cases hlt : k < 64
    · obtain ⟨y, hy⟩ : ∃ y, y = gB (keyp key) k ^^^ x := ⟨_, rfl⟩
      have HBB := Lib.hid (hb.out.alloc hb.out.size (.cells #[B y] 5))
      have HOO := Lib.hid (ho.out.kept (World.grownBy_alloc wx (.cells #[B y] 5) none) (by simp [Value.ownBlock]))
      have HBK : Hid (Blk (wx.alloc (.cells #[B y] 5)) wx.heap.size 5 #[B y]) := Lib.hid (Blk.new wx 5 #[B y])
      have HYS : Hid ((xr x (keyp key)).take k ++ [y] = (xr x (keyp key)).take (k + 1)) := Lib.hid (by rw [hy]; exact xr_snoc x _ k (by rw [HKL.out]; exact hlt))
      by_cases hkl : k < key.length
      · have hy2 : gB key k ^^^ x = y := by rw [hy, keyp_low hkl]
        have f1 : k < (strB key).size := by rw [strB_size]; exact hkl
        clear hy
        go_wp2_with (first
          | ((with_reducible show wpList _ _ _ (⟨some 19, _, _, _, _, _⟩ :: _) _ _); refine wpList_idxS _ rfl (.tmp 17) (.tmp 18) 9 rfl Tryz.underlying9 key k _ rfl rfl rfl hkl ?_)
          | ((with_reducible show wpList _ _ _ (⟨some 25, _, _, _, _, _⟩ :: _) _ _); refine wpList_app1 _ rfl (.tmp 20) (.tmp 24) 24 5 (.int .u8 0) 1 Tryz.underlying24 infoU8 rfl rfl w.heap.size _ k _ rfl HOO.out wx.heap.size 1 5 (B y) rfl HBK.out rfl (by omega) (by omega) HBB.out.size ?_; intro v6 w6 hp))
        obtain ⟨g6, c6, rfl⟩ := hp.form (by omega)
        have HO6 : Hid (w6.ownsRow w.heap.size 5 1 (.slice (some ⟨g6, 0, none⟩) (k + 1) c6) (k + 1) (((xr x (keyp key)).take (k + 1)).map B)) := Lib.hid (by have := hp.own; rw [← HYS.out, List.map_append]; exact this)
        have HB6 := Lib.hid (hp.below HOO.out HBB.out (Nat.le_refl _) HBB.out.size)
        clear hp
        go_roundw
        case rel => exact ⟨k + 1, _, _, by omega, by go_num, rfl, HO6, HB6⟩
        case measure => simp [intOf]; omega
      · have hy2 : x = y := by rw [hy, keyp_high (by omega), UInt8.zero_xor]
        have f1 : ¬ k < (strB key).size := by rw [strB_size]; exact hkl
        clear hy
        subst hy2
        go_wp2_with ((with_reducible show wpList _ _ _ (⟨some 25, _, _, _, _, _⟩ :: _) _ _); refine wpList_app1 _ rfl (.tmp 20) (.tmp 24) 24 5 (.int .u8 0) 1 Tryz.underlying24 infoU8 rfl rfl w.heap.size _ k _ rfl HOO.out wx.heap.size 1 5 (B x) rfl HBK.out rfl (by omega) (by omega) HBB.out.size ?_; intro v6 w6 hp)
        obtain ⟨g6, c6, rfl⟩ := hp.form (by omega)
        have HO6 : Hid (w6.ownsRow w.heap.size 5 1 (.slice (some ⟨g6, 0, none⟩) (k + 1) c6) (k + 1) (((xr x (keyp key)).take (k + 1)).map B)) := Lib.hid (by have := hp.own; rw [← HYS.out, List.map_append]; exact this)
        have HB6 := Lib.hid (hp.below HOO.out HBB.out (Nat.le_refl _) HBB.out.size)
        clear hp
        go_roundw
        case rel => exact ⟨k + 1, _, _, by omega, by go_num, rfl, HO6, HB6⟩
        case measure => simp [intOf]; omega
    · obtain rfl : k = 64 := by omega
      go_wp2_with fail
      go_ret
      exact ⟨⟨g4, c4, rfl, by have := ho.out; rw [List.take_of_length_le (by rw [xr_length, HKL.out]; exact Nat.le_refl _)] at this; exact this⟩, hb.out⟩

theorem m54 : Value.int .u8 54 = B 0x36 := rfl
theorem m92 : Value.int .u8 92 = B 0x5c := rfl
set_option maxRecDepth 100000 in
set_option maxHeartbeats 1000000 in
theorem rtag_any (A : Option Addr) (n c : Nat) (key l : List UInt8) (w : World) (h : BS w A n c l) (hk : key.length ≤ 64) (hN : n ≤ 1000000) :
    Calls Tryz.prog 45 #[.string (strB key), .slice A n c] w fun e w' => e = .returned (.string (strB (tagL key l))) ∧ Below w.heap.size w w' := by
  have HK := Lib.hid hk
  have H := Lib.hid h
  have f1 : ¬ 64 < (strB key).size := by rw [strB_size]; omega
  have HIl : Hid ((xr 0x36 (keyp key)).length = 64) := Lib.hid (by rw [xr_length, keyp_length key hk])
  have HOl : Hid ((xr 0x5c (keyp key)).length = 64) := Lib.hid (by rw [xr_length, keyp_length key hk])
  have HTL : Hid (tagL key l = sha (xr 0x5c (keyp key) ++ sha (xr 0x36 (keyp key) ++ l))) := Lib.hid rfl
  obtain ⟨R, hR⟩ : ∃ R, R = tagL key l := ⟨_, rfl⟩
  rw [← hR] at HTL ⊢
  clear h hk hR
  go_enter Tryz.func45, Tryz.ntmps45
  go_wp2_with (first
    | (go_at_call 68; (with_reducible show Calls _ _ _ w _); refine (rpad5_any key 0x36 _ m54 w HK.out).mono ?_; rintro e w1 ⟨⟨g1, c1, rfl, o⟩, b⟩; have HO1 := Lib.hid o; have HB1 := Lib.hid b; clear o b)
    | ((with_reducible show wpList _ _ _ (⟨some 15, _, _, _, _, _⟩ :: _) _ _); refine wpList_appB _ rfl (.tmp 13) (.tmp 14) rfl w.heap.size _ 64 _ rfl HO1.out A n c l rfl (H.out.kept HB1.out) (by omega) HB1.out.size ?_; intro v2 w2 hp; have HO2 := Lib.hid hp.own; have HB2 := Lib.hid (hp.below HO1.out HB1.out (Nat.le_refl _) HB1.out.size); obtain ⟨A2, c2, rfl, b2⟩ := BS.of_own hp.own (by unfold lim; omega); have HS2 := Lib.hid b2; clear hp b2)
    | (go_at_call 67; (with_reducible show Calls _ _ _ w2 _); refine (refsum_any A2 (64 + n) c2 _ w2 HS2.out (by omega)).mono ?_; rintro e w3 ⟨rfl, b⟩; have HB3 := Lib.hid (below_then HB2.out b); clear b))
  obtain ⟨S, hS⟩ : ∃ S, S = sha (xr 0x36 (keyp key) ++ l) := ⟨_, rfl⟩
  have HSl : Hid (S.length = 32) := Lib.hid (by rw [hS]; exact sha_length _)
  rw [← hS] at HTL ⊢
  clear hS HO2 HS2 HO1 HB1 HB2
  go_wp2_with (first
    | (go_at_call 68; (with_reducible show Calls _ _ _ w3 _); refine (rpad5_any key 0x5c _ m92 w3 HK.out).mono ?_; rintro e w4 ⟨⟨g4, c4, rfl, o⟩, b⟩; have HO4 := Lib.hid o; have HB4 := Lib.hid b; clear o b)
    | ((with_reducible show wpList _ _ _ (⟨some 20, _, _, _, _, _⟩ :: _) _ _); refine wpList_convB _ rfl (.tmp 19) rfl S rfl ?_; intro w5 cap hc; have HC5 := Lib.hid hc; have HO5 := Lib.hid (own_below HO4.out hc.2.2.1); have HB5 := Lib.hid (below_thenB HB4.out HB4.out.size hc.2.2.1); clear hc)
    | ((with_reducible show wpList _ _ _ (⟨some 21, _, _, _, _, _⟩ :: _) _ _); refine wpList_appB _ rfl (.tmp 18) (.tmp 20) rfl w3.heap.size _ 64 _ rfl HO5.out _ S.length cap S rfl (HC5.out.bs (by rw [HSl.out]; decide)) (by rw [HSl.out]; decide) HB5.out.size ?_; intro v6 w6 hp; have HB6 := Lib.hid (hp.below HO5.out HB5.out (Nat.le_refl _) HB5.out.size); obtain ⟨A6, c6, rfl, b6⟩ := BS.of_own hp.own (by rw [HSl.out]; decide); have HS6 := Lib.hid b6; clear hp b6)
    | (go_at_call 67; refine (refsum_any A6 (64 + S.length) c6 _ w6 HS6.out (by rw [HSl.out]; decide)).mono ?_; rintro e w7 ⟨rfl, b⟩; have HB7 := Lib.hid (below_thenB HB6.out HB6.out.size b); clear b))
  go_ret
  exact ⟨by rw [HTL.out]; rfl, below_then HB3.out HB7.out⟩
end Go.Proofs.YtgoefpbicohkfaaGreatDoor
/- Contract of ref01.Number. -/
namespace Go.Proofs.YtgoefpbicohkfaaGreatDoor
open Go Go.RowKit Gf Sha

theorem low_n : ∀ n, n < 256 → UInt8.ofNat n ||| 128 = UInt8.ofNat (n % 128) + 128 := by decide +kernel
theorem low_b (a : UInt8) : (a ||| 128) = UInt8.ofNat (a.toNat % 128) + 128 := by
  have h := low_n a.toNat a.toNat_lt
  rwa [UInt8.ofNat_toNat] at h
theorem low_of (n : Nat) : UInt8.ofNat (n % 128) + 128 = UInt8.ofNat n ||| 128 := by
  rw [low_b]
  congr 1
  apply UInt8.toNat_inj.1
  rw [UInt8.toNat_ofNat', UInt8.toNat_ofNat', UInt8.toNat_ofNat']
  omega
theorem add128 (b : UInt8) : IntKind.u8.wrap (bv b + 128) = bv (b + 128) := by
  unfold bv
  show ((b.toNat : Int) + 128) % 256 = _
  rw [UInt8.toNat_add]
  show _ = (((b.toNat + 128) % 256 : Nat) : Int)
  omega
attribute [local go_sem] add128

set_option maxRecDepth 100000 in
set_option maxHeartbeats 1000000 in
theorem rnum_any (N : Nat) (w : World) (hN : N ≤ 1099511627776) :
    Calls Tryz.prog 46 #[.int .u64 (N : Int)] w fun e w' => (∃ g m c', e = .returned (.slice (some ⟨g, 0, none⟩) m c') ∧ m = (uv N).length ∧ w'.ownsRow w.heap.size 5 1 (.slice (some ⟨g, 0, none⟩) m c') m ((uv N).map B)) ∧ Below w.heap.size w w' := by
  have HO0 : Hid ((w.alloc (.cells #[] 5)).ownsRow w.heap.size 5 1 (.slice (some ⟨w.heap.size, 0, none⟩) 0 0) 0 (([] : List UInt8).map B)) := Lib.hid (BL.own (BL.new w 5 []) (Nat.le_refl _) rfl (by decide))
  have HX0 : Hid (Below w.heap.size w (w.alloc (.cells #[] 5))) := Lib.hid ((Below.refl _ _).alloc (Nat.le_refl _) _)
  go_enter Tryz.func46, Tryz.ntmps46
  go_wp2_with fail
  go_loopw [0, 3] (fun i v wr => ∃ (X f m g4 c4 : Nat) (pre : List UInt8), X ≤ 1099511627776 ∧ m ≤ 20 ∧ i = .int .u64 (X : Int) ∧ v = .slice (some ⟨g4, 0, none⟩) m c4 ∧ Hid (X < 128 ^ (f + 1)) ∧ Hid (m + f = 10) ∧ Hid (pre ++ uvf f X = uv N) ∧ Hid (wr.ownsRow w.heap.size 5 1 (.slice (some ⟨g4, 0, none⟩) m c4) m (pre.map B)) ∧ Hid (Below w.heap.size w wr)) (fun i _ _ => (intOf i).toNat)
  case atStart => exact ⟨N, 10, 0, _, _, [], hN, by omega, rfl, rfl, Lib.hid (Nat.lt_of_le_of_lt hN (by decide)), Lib.hid rfl, Lib.hid rfl, HO0, HX0⟩
  case round =>
    obtain ⟨X, f, m, g4, c4, pre, hX, hm, rfl, rfl, hf, hmf, hp, ho, hb⟩ := hrel
    obtain ⟨wx, hwx⟩ : ∃ x, x = wr := ⟨_, rfl⟩
    rw [← hwx] at ho hb ⊢
    clear hwx
    by_cases hlt : 127 < X
    · obtain ⟨f, rfl⟩ : ∃ k, f = k + 1 := by
        cases f with
        | zero => exfalso; have := hf.out; simp at this; omega
        | succ k => exact ⟨k, rfl⟩
      obtain ⟨y, hy⟩ : ∃ y, y = UInt8.ofNat (X % 128) + 128 := ⟨_, rfl⟩
      have hy2 : UInt8.ofNat (X % 128) + 128 = y := hy.symm
      have HBB := Lib.hid (hb.out.alloc hb.out.size (.cells #[B y] 5))
      have HOO := Lib.hid (ho.out.kept (World.grownBy_alloc wx (.cells #[B y] 5) none) (by simp [Value.ownBlock]))
      have HBK : Hid (Blk (wx.alloc (.cells #[B y] 5)) wx.heap.size 5 #[B y]) := Lib.hid (Blk.new wx 5 #[B y])
      have HP : Hid ((pre ++ [y]) ++ uvf f (X / 128) = uv N) := Lib.hid (by
        rw [← hp.out, uvf_more f X (by omega), hy, low_of, List.append_assoc, Nat.shiftRight_eq_div_pow]; rfl)
      have HF : Hid (X / 128 < 128 ^ (f + 1)) := Lib.hid (by
        have h1 := hf.out
        rw [Nat.pow_succ] at h1
        exact Nat.div_lt_of_lt_mul (by rw [Nat.mul_comm]; exact h1))
      have h0 : (0 : Int) ≤ (X : Int) := by omega
      have hm9 : m ≤ 9 := by have := hmf.out; omega
      clear hy
      go_wp2_with (first
        | ((with_reducible show wpList _ _ _ (⟨some 9, _, _, _, _, _⟩ :: _) _ _); refine wpList_remN _ rfl (.tmp 8) _ 53 53 rfl X 128 _ 128 rfl rfl rfl rfl (by decide) ?_)
        | ((with_reducible show wpList _ _ _ (⟨some 10, _, _, _, _, _⟩ :: _) _ _); refine wpList_u8N _ rfl (.tmp 9) 53 5 rfl _ .u64 Tryz.underlying53 Tryz.underlying5 _ _ rfl rfl ?_)
        | ((with_reducible show wpList _ _ _ (⟨some 13, _, _, _, _, _⟩ :: _) _ _); refine wpList_app1 _ rfl (.tmp 7) (.tmp 12) 24 5 (.int .u8 0) 1 Tryz.underlying24 infoU8 rfl rfl w.heap.size _ m _ rfl HOO.out wx.heap.size 1 5 (B y) rfl HBK.out rfl (by omega) (by omega) HBB.out.size ?_; intro v6 w6 hpp))
      obtain ⟨g6, c6, rfl⟩ := hpp.form (by omega)
      have HO6 : Hid (w6.ownsRow w.heap.size 5 1 (.slice (some ⟨g6, 0, none⟩) (m + 1) c6) (m + 1) ((pre ++ [y]).map B)) := Lib.hid (by have := hpp.own; rw [List.map_append]; exact this)
      have HB6 := Lib.hid (hpp.below HOO.out HBB.out (Nat.le_refl _) HBB.out.size)
      clear hpp
      go_roundw
      case rel => exact ⟨X / 128, f, m + 1, _, _, pre ++ [y], by omega, by omega, by go_num, rfl, HF, Lib.hid (by have := hmf.out; omega), HP, HO6, HB6⟩
      case measure => simp [intOf]; omega
    · obtain ⟨y, hy⟩ : ∃ y, y = UInt8.ofNat X := ⟨_, rfl⟩
      have hy2 : UInt8.ofNat X = y := hy.symm
      have HBB := Lib.hid (hb.out.alloc hb.out.size (.cells #[B y] 5))
      have HOO := Lib.hid (ho.out.kept (World.grownBy_alloc wx (.cells #[B y] 5) none) (by simp [Value.ownBlock]))
      have HBK : Hid (Blk (wx.alloc (.cells #[B y] 5)) wx.heap.size 5 #[B y]) := Lib.hid (Blk.new wx 5 #[B y])
      have HP : Hid (pre ++ [y] = uv N) := Lib.hid (by rw [← hp.out, uvf_small f X (by omega), hy])
      clear hy
      go_wp2_with (first
        | ((with_reducible show wpList _ _ _ (⟨some 18, _, _, _, _, _⟩ :: _) _ _); refine wpList_u8N _ rfl (.tmp 17) 53 5 rfl _ .u64 Tryz.underlying53 Tryz.underlying5 _ _ rfl rfl ?_)
        | ((with_reducible show wpList _ _ _ (⟨some 20, _, _, _, _, _⟩ :: _) _ _); refine wpList_app1 _ rfl (.tmp 16) (.tmp 19) 24 5 (.int .u8 0) 1 Tryz.underlying24 infoU8 rfl rfl w.heap.size _ m _ rfl HOO.out wx.heap.size 1 5 (B y) rfl HBK.out rfl (by omega) (by omega) HBB.out.size ?_; intro v6 w6 hpp))
      obtain ⟨g6, c6, rfl⟩ := hpp.form (by omega)
      have HO6 : Hid (w6.ownsRow w.heap.size 5 1 (.slice (some ⟨g6, 0, none⟩) (m + 1) c6) (m + 1) ((uv N).map B)) := Lib.hid (by have := hpp.own; rw [← HP.out, List.map_append]; exact this)
      have HB6 := Lib.hid (hpp.below HOO.out HBB.out (Nat.le_refl _) HBB.out.size)
      clear hpp
      go_ret
      exact ⟨⟨g6, m + 1, c6, rfl, by have := HO6.out.1; simpa using this.symm, HO6.out⟩, HB6.out⟩
end Go.Proofs.YtgoefpbicohkfaaGreatDoor
/- Contract of ref01.Number, for all numbers of an int (out of Rnu of chapter 49). -/
namespace Go.Proofs.YtgoefpbicohkfaaGreatDoor
open Go Go.RowKit Gf Sha

attribute [local go_sem] add128

set_option maxRecDepth 100000 in
set_option maxHeartbeats 1000000 in
theorem rnum_big (N : Nat) (w : World) (hN : N ≤ 9223372036854775807) :
    Calls Tryz.prog 46 #[.int .u64 (N : Int)] w fun e w' => (∃ g m c', e = .returned (.slice (some ⟨g, 0, none⟩) m c') ∧ m = (uv N).length ∧ w'.ownsRow w.heap.size 5 1 (.slice (some ⟨g, 0, none⟩) m c') m ((uv N).map B)) ∧ Below w.heap.size w w' := by
  have HO0 : Hid ((w.alloc (.cells #[] 5)).ownsRow w.heap.size 5 1 (.slice (some ⟨w.heap.size, 0, none⟩) 0 0) 0 (([] : List UInt8).map B)) := Lib.hid (BL.own (BL.new w 5 []) (Nat.le_refl _) rfl (by decide))
  have HX0 : Hid (Below w.heap.size w (w.alloc (.cells #[] 5))) := Lib.hid ((Below.refl _ _).alloc (Nat.le_refl _) _)
  go_enter Tryz.func46, Tryz.ntmps46
  go_wp2_with fail
  go_loopw [0, 3] (fun i v wr => ∃ (X f m g4 c4 : Nat) (pre : List UInt8), X ≤ 9223372036854775807 ∧ m ≤ 20 ∧ i = .int .u64 (X : Int) ∧ v = .slice (some ⟨g4, 0, none⟩) m c4 ∧ Hid (X < 128 ^ (f + 1)) ∧ Hid (m + f = 10) ∧ Hid (pre ++ uvf f X = uv N) ∧ Hid (wr.ownsRow w.heap.size 5 1 (.slice (some ⟨g4, 0, none⟩) m c4) m (pre.map B)) ∧ Hid (Below w.heap.size w wr)) (fun i _ _ => (intOf i).toNat)
  case atStart => exact ⟨N, 10, 0, _, _, [], hN, by omega, rfl, rfl, Lib.hid (Nat.lt_of_le_of_lt hN (by decide)), Lib.hid rfl, Lib.hid rfl, HO0, HX0⟩
  case round =>
    obtain ⟨X, f, m, g4, c4, pre, hX, hm, rfl, rfl, hf, hmf, hp, ho, hb⟩ := hrel
    obtain ⟨wx, hwx⟩ : ∃ x, x = wr := ⟨_, rfl⟩
    rw [← hwx] at ho hb ⊢
    clear hwx
    by_cases hlt : 127 < X
    · obtain ⟨f, rfl⟩ : ∃ k, f = k + 1 := by
        cases f with
        | zero => exfalso; have := hf.out; simp at this; omega
        | succ k => exact ⟨k, rfl⟩
      obtain ⟨y, hy⟩ : ∃ y, y = UInt8.ofNat (X % 128) + 128 := ⟨_, rfl⟩
      have hy2 : UInt8.ofNat (X % 128) + 128 = y := hy.symm
      have HBB := Lib.hid (hb.out.alloc hb.out.size (.cells #[B y] 5))
      have HOO := Lib.hid (ho.out.kept (World.grownBy_alloc wx (.cells #[B y] 5) none) (by simp [Value.ownBlock]))
      have HBK : Hid (Blk (wx.alloc (.cells #[B y] 5)) wx.heap.size 5 #[B y]) := Lib.hid (Blk.new wx 5 #[B y])
      have HP : Hid ((pre ++ [y]) ++ uvf f (X / 128) = uv N) := Lib.hid (by
        rw [← hp.out, uvf_more f X (by omega), hy, low_of, List.append_assoc, Nat.shiftRight_eq_div_pow]; rfl)
      have HF : Hid (X / 128 < 128 ^ (f + 1)) := Lib.hid (by
        have h1 := hf.out
        rw [Nat.pow_succ] at h1
        exact Nat.div_lt_of_lt_mul (by rw [Nat.mul_comm]; exact h1))
      have h0 : (0 : Int) ≤ (X : Int) := by omega
      have hm9 : m ≤ 9 := by have := hmf.out; omega
      clear hy
      go_wp2_with (first
        | ((with_reducible show wpList _ _ _ (⟨some 9, _, _, _, _, _⟩ :: _) _ _); refine wpList_remN _ rfl (.tmp 8) _ 53 53 rfl X 128 _ 128 rfl rfl rfl rfl (by decide) ?_)
        | ((with_reducible show wpList _ _ _ (⟨some 10, _, _, _, _, _⟩ :: _) _ _); refine wpList_u8N _ rfl (.tmp 9) 53 5 rfl _ .u64 Tryz.underlying53 Tryz.underlying5 _ _ rfl rfl ?_)
        | ((with_reducible show wpList _ _ _ (⟨some 13, _, _, _, _, _⟩ :: _) _ _); refine wpList_app1 _ rfl (.tmp 7) (.tmp 12) 24 5 (.int .u8 0) 1 Tryz.underlying24 infoU8 rfl rfl w.heap.size _ m _ rfl HOO.out wx.heap.size 1 5 (B y) rfl HBK.out rfl (by omega) (by omega) HBB.out.size ?_; intro v6 w6 hpp))
      obtain ⟨g6, c6, rfl⟩ := hpp.form (by omega)
      have HO6 : Hid (w6.ownsRow w.heap.size 5 1 (.slice (some ⟨g6, 0, none⟩) (m + 1) c6) (m + 1) ((pre ++ [y]).map B)) := Lib.hid (by have := hpp.own; rw [List.map_append]; exact this)
      have HB6 := Lib.hid (hpp.below HOO.out HBB.out (Nat.le_refl _) HBB.out.size)
      clear hpp
      go_roundw
      case rel => exact ⟨X / 128, f, m + 1, _, _, pre ++ [y], by omega, by omega, by go_num, rfl, HF, Lib.hid (by have := hmf.out; omega), HP, HO6, HB6⟩
      case measure => simp [intOf]; omega
    · obtain ⟨y, hy⟩ : ∃ y, y = UInt8.ofNat X := ⟨_, rfl⟩
      have hy2 : UInt8.ofNat X = y := hy.symm
      have HBB := Lib.hid (hb.out.alloc hb.out.size (.cells #[B y] 5))
      have HOO := Lib.hid (ho.out.kept (World.grownBy_alloc wx (.cells #[B y] 5) none) (by simp [Value.ownBlock]))
      have HBK : Hid (Blk (wx.alloc (.cells #[B y] 5)) wx.heap.size 5 #[B y]) := Lib.hid (Blk.new wx 5 #[B y])
      have HP : Hid (pre ++ [y] = uv N) := Lib.hid (by rw [← hp.out, uvf_small f X (by omega), hy])
      clear hy
      go_wp2_with (first
        | ((with_reducible show wpList _ _ _ (⟨some 18, _, _, _, _, _⟩ :: _) _ _); refine wpList_u8N _ rfl (.tmp 17) 53 5 rfl _ .u64 Tryz.underlying53 Tryz.underlying5 _ _ rfl rfl ?_)
        | ((with_reducible show wpList _ _ _ (⟨some 20, _, _, _, _, _⟩ :: _) _ _); refine wpList_app1 _ rfl (.tmp 16) (.tmp 19) 24 5 (.int .u8 0) 1 Tryz.underlying24 infoU8 rfl rfl w.heap.size _ m _ rfl HOO.out wx.heap.size 1 5 (B y) rfl HBK.out rfl (by omega) (by omega) HBB.out.size ?_; intro v6 w6 hpp))
      obtain ⟨g6, c6, rfl⟩ := hpp.form (by omega)
      have HO6 : Hid (w6.ownsRow w.heap.size 5 1 (.slice (some ⟨g6, 0, none⟩) (m + 1) c6) (m + 1) ((uv N).map B)) := Lib.hid (by have := hpp.own; rw [← HP.out, List.map_append]; exact this)
      have HB6 := Lib.hid (hpp.below HOO.out HBB.out (Nat.le_refl _) HBB.out.size)
      clear hpp
      go_ret
      exact ⟨⟨g6, m + 1, c6, rfl, by have := HO6.out.1; simpa using this.symm, HO6.out⟩, HB6.out⟩
end Go.Proofs.YtgoefpbicohkfaaGreatDoor
