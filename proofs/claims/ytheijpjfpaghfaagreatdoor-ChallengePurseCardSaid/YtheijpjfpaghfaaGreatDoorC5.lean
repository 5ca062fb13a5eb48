/- Several texts in one: Prc, Cpy. -/
import Derived.Test.YtheijpjfpaghfaaGreatDoorC1
import Derived.Test.YtheijpjfpaghfaaGreatDoorC2
import Derived.Test.YtheijpjfpaghfaaGreatDoorC3
import Derived.Test.YtheijpjfpaghfaaGreatDoorC4
import Derived.LoopTactic
import Derived.Deep.QuietTactic
import Derived.BigQuiet
import Derived.OwnWalk
import Derived.IntWalk
import Derived.Deep.LoopGhost
import Derived.Test.YtheijpjfpaghfaaGreatDoorChecked
import Derived.Laws.BytesArg
import Derived.Laws.IdiomStrings
/- Contract of (*sha256.State).process. -/
namespace Go.Proofs.YtheijpjfpaghfaaGreatDoor
open Go.RowKit Gf Sha

/-- The tables that the program laid at its start. -/
structure Tabs (w : World) : Prop where
 pads : At w 0 0 [B 0x36, B 0x5c]
 ini : At w 1 0 ini.cells
 con : At w 2 0 (ks.map W)
theorem Tabs.kept {w w' : World} (h : Tabs w) (hb : Below w.heap.size w w') : Tabs w' := ⟨h.pads.kept hb, h.ini.kept hb, h.con.kept hb⟩
theorem Tabs.kp {S : Nat → Prop} {w w' : World} (h : Tabs w) (hb : Kp S w w') (hn : ∀ k, S k → 2 < k) : Tabs w' :=
 ⟨h.pads.kp hb (fun h => by have := hn _ h; omega), h.ini.kp hb (fun h => by have := hn _ h; omega), h.con.kp hb (fun h => by have := hn _ h; omega)⟩

theorem conv_w (b : UInt8) : IntKind.u32.wrap (bv b) = wv b.toUInt32 := by
 have := bv_hi b
 have := bv_lo b
 rw [← wv_byte]; show bv b % 4294967296 = bv b; omega
theorem shl24 (x : UInt32) : wv x * 16777216 % 4294967296 = wv (x <<< 24) := shl_w x 24 (by decide)
theorem shl16 (x : UInt32) : wv x * 65536 % 4294967296 = wv (x <<< 16) := shl_w x 16 (by decide)
theorem shl8 (x : UInt32) : wv x * 256 % 4294967296 = wv (x <<< 8) := shl_w x 8 (by decide)
theorem shr10 (x : UInt32) : wv x / (1024 : Int) = wv (x >>> 10) := shr_w x 10 (by decide)
theorem shr3 (x : UInt32) : wv x / (8 : Int) = wv (x >>> 3) := shr_w x 3 (by decide)
theorem shl24' (x : UInt32) : IntKind.u32.wrap (wv x * 16777216) = wv (x <<< 24) := shl24 x
theorem shl16' (x : UInt32) : IntKind.u32.wrap (wv x * 65536) = wv (x <<< 16) := shl16 x
theorem shl8' (x : UInt32) : IntKind.u32.wrap (wv x * 256) = wv (x <<< 8) := shl8 x
theorem not_w' (x : UInt32) : bits .xor .u32 (if IntKind.u32.signed = true then -1 else IntKind.u32.max) (wv x) = wv (~~~ x) := not_w x
attribute [local go_sem] not_w' shl24' shl16' shl8' Sha.add_wrap Sha.add_w Sha.xor_w Sha.and_w Sha.or_w Sha.not_w conv_w shl24 shl16 shl8 shr10 shr3

theorem sched_val (a b c d : UInt32) : IntKind.u32.wrap (IntKind.u32.wrap (IntKind.u32.wrap (bits .xor .u32 (wv (rr a 17 ^^^ rr a 19)) (wv a / (1024 : Int)) + wv b) + bits .xor .u32 (wv (rr c 7 ^^^ rr c 18)) (wv c / (8 : Int))) + wv d) = wv (ss1 a + b + ss0 c + d) := by
 rw [shr10, shr3, xor_w, xor_w, add_wrap, add_wrap, add_wrap]; rfl

theorem sched_val2 (a b c d : UInt32) : ((rr a 17 ^^^ rr a 19 ^^^ a >>> 10) + b + (rr c 7 ^^^ rr c 18 ^^^ c >>> 3) + d) = ss1 a + b + ss0 c + d := rfl

set_option maxRecDepth 100000 in
set_option maxHeartbeats 1000000 in
theorem process_any (g c : Nat) (A : Option Addr) (t : TypeId) (s : St) (l : List UInt8) (rest : List Value) (w : World) (h : BS w A 64 c l) (hg : BL w g t (s.cells ++ rest)) (hT : Tabs w) :
  Calls Tryz.prog 135 #[.pointer (some ⟨g, 0, none⟩), .slice A 64 c] w fun e w' => e = .returned (.tuple #[]) ∧ BL w' g t ((comp s l).cells ++ rest) ∧ Kp (· = g) w w' := by
 have HL := Lib.hid h.1
 have hc : 64 ≤ c := h.2.1
 have H := Lib.hid h
 have HG := Lib.hid hg
 have HT := Lib.hid hT
 clear h hg hT
 go_enter Tryz.func135, Tryz.ntmps135
 go_wp2_with ((with_reducible show OpW 4); refine wpList_alloc _ rfl 210 rfl (List.replicate 64 (.int .u32 0)) (by kernel_rfl) ?_; intro w1 hb1 hw1 hz1)
 rw [← wcells_nil] at hb1
 have HB1 := Lib.hid hb1
 have HW1 := Lib.hid hw1
 have HZ1 := Lib.hid hz1
 clear hb1 hw1 hz1
 go_loopw [27] (fun i wr => ∃ k : Nat, k ≤ 64 ∧ i = .int .i64 (k : Int) ∧ Hid (BL wr w.heap.size 210 (wcells (wl l k))) ∧ Hid (Kp (· = w.heap.size) w1 wr)) (fun i _ => 64 - (intOf i).toNat)
 case atStart => exact ⟨0, by omega, rfl, HB1, Lib.hid (Kp.refl _ _)⟩
 case round =>
  obtain ⟨k, hk, rfl, hb, hw⟩ := hrel
  by_cases hlt : k < 64
  ·
   by_cases h16 : k < 16
   ·
    obtain ⟨ga, oa, rfl, c0⟩ := (H.out.kept HW1.out).2.2.2 (4 * k) (by omega)
    have c1 : w1.cell? ⟨ga, oa + 4 * k + 1, none⟩ = some (B (gB l (4 * k + 1))) := by
     obtain ⟨_, _, e, q⟩ := (H.out.kept HW1.out).2.2.2 (4 * k + 1) (by omega)
     cases e; rw [Nat.add_assoc]; exact q
    have c2 : w1.cell? ⟨ga, oa + 4 * k + 2, none⟩ = some (B (gB l (4 * k + 2))) := by
     obtain ⟨_, _, e, q⟩ := (H.out.kept HW1.out).2.2.2 (4 * k + 2) (by omega)
     cases e; rw [Nat.add_assoc]; exact q
    have c3 : w1.cell? ⟨ga, oa + 4 * k + 3, none⟩ = some (B (gB l (4 * k + 3))) := by
     obtain ⟨_, _, e, q⟩ := (H.out.kept HW1.out).2.2.2 (4 * k + 3) (by omega)
     cases e; rw [Nat.add_assoc]; exact q
    have hne : ga ≠ w.heap.size := by
     obtain ⟨_, _, e, q⟩ := H.out.2.2.2 (4 * k) (by omega)
     cases e
     have := cell_lt q
     simp at this
     omega
    have d0 := hw.out.cell c0 hne
    have d1 := hw.out.cell c1 hne
    have d2 := hw.out.cell c2 hne
    have d3 := hw.out.cell c3 hne
    have e0 : wr.cell? ⟨w.heap.size, k, none⟩ = some (.int .u32 0) := hb.out.get (by have := wcells_zero (wl l k) (by rw [wl_length]; exact hlt); rwa [wl_length] at this)
    have e1 := hb.out.frozen k
    have HN := Lib.hid hne
    clear c0 c1 c2 c3 hne
    go_wp2_with fail
    refine Text.wp_region_text (fun _ => True) [(0, 4), (1, 4), (2, 4), (6, 4), (7, 4), (12, 4), (13, 4), (18, 4), (19, 4), (3, 1), (4, 4), (5, 4), (8, 1), (9, 4), (10, 4), (11, 4), (14, 1), (15, 4), (16, 4), (17, 4), (20, 1), (21, 4), (22, 4), (23, 4), (24, 2)] (by kernel_rfl) (by kernel_rfl) (fun _ _ _ _ _ h => h) (trivial) ?_
    iterate 9 (refine Text.purek rfl rfl (fun K hK => ⟨_, fun w' => by go_simp <;> rfl, ?_⟩); go_simp; refine hK _ ?_; clear hK K)
    (refine Text.readk rfl rfl (fun K hK => ⟨_, by go_simp <;> rfl, ?_⟩); go_simp; refine hK _ ?_; clear hK K)
    iterate 2 (refine Text.purek rfl rfl (fun K hK => ⟨_, fun w' => by go_simp <;> rfl, ?_⟩); go_simp; refine hK _ ?_; clear hK K)
    (refine Text.readk rfl rfl (fun K hK => ⟨_, by go_simp <;> rfl, ?_⟩); go_simp; refine hK _ ?_; clear hK K)
    iterate 3 (refine Text.purek rfl rfl (fun K hK => ⟨_, fun w' => by go_simp <;> rfl, ?_⟩); go_simp; refine hK _ ?_; clear hK K)
    (refine Text.readk rfl rfl (fun K hK => ⟨_, by go_simp <;> rfl, ?_⟩); go_simp; refine hK _ ?_; clear hK K)
    iterate 3 (refine Text.purek rfl rfl (fun K hK => ⟨_, fun w' => by go_simp <;> rfl, ?_⟩); go_simp; refine hK _ ?_; clear hK K)
    (refine Text.readk rfl rfl (fun K hK => ⟨_, by go_simp <;> rfl, ?_⟩); go_simp; refine hK _ ?_; clear hK K)
    iterate 3 (refine Text.purek rfl rfl (fun K hK => ⟨_, fun w' => by go_simp <;> rfl, ?_⟩); go_simp; refine hK _ ?_; clear hK K)
    refine Text.eff rfl rfl (fun K hK => ?_)
    go_simp
    have HB2 : Hid (BL (wr.setCell ⟨w.heap.size, k, none⟩ (W (word l k))) w.heap.size 210 (wcells (wl l (k + 1)))) := Lib.hid (by
     have := hb.out.set_ k (W (word l k))
     have e := wcells_set (wl l k) (word l k) (by rw [wl_length]; exact hlt)
     rw [wl_length] at e
     rw [e, ← word_wl l k h16] at this
     exact this)
    have HW2 : Hid (Kp (· = w.heap.size) w1 (wr.setCell ⟨w.heap.size, k, none⟩ (W (word l k)))) := Lib.hid (hw.out.set (.inl rfl) _)
    refine hK _ _ trivial ?_
    clear hK K d0 d1 d2 d3 e0 e1
    refine Text.done ?_
    rw [word_eq l k]
    generalize wr.setCell ⟨w.heap.size, k, none⟩ (W (word l k)) = w2 at HB2 HW2 ⊢
    go_wp2_with fail
    go_roundw
    case rel => exact ⟨k + 1, by omega, by go_num, Lib.hid HB2.out.drew, Lib.hid HW2.out.drew⟩
    case measure => simp [intOf]; omega
   ·
    obtain ⟨j2, hj2⟩ : ∃ j, j + 2 = k := ⟨k - 2, by omega⟩
    have s2 : IntKind.i64.wrap ((k : Int) - 2) = (j2 : Int) := by rw [IntWalk.i64_in _ (by omega)]; omega
    have e1 : wr.cell? ⟨w.heap.size, j2, none⟩ = some (W (gw (wl l k) 1)) := hb.out.get (wcells_get _ _ _ (by rw [wl_length]; omega))
    have l2 : (j2 : Int) < 64 := by omega
    have HJ2 := Lib.hid hj2
    clear hj2
    obtain ⟨j7, hj7⟩ : ∃ j, j + 7 = k := ⟨k - 7, by omega⟩
    have s7 : IntKind.i64.wrap ((k : Int) - 7) = (j7 : Int) := by rw [IntWalk.i64_in _ (by omega)]; omega
    have e6 : wr.cell? ⟨w.heap.size, j7, none⟩ = some (W (gw (wl l k) 6)) := hb.out.get (wcells_get _ _ _ (by rw [wl_length]; omega))
    have l7 : (j7 : Int) < 64 := by omega
    have HJ7 := Lib.hid hj7
    clear hj7
    obtain ⟨j15, hj15⟩ : ∃ j, j + 15 = k := ⟨k - 15, by omega⟩
    have s15 : IntKind.i64.wrap ((k : Int) - 15) = (j15 : Int) := by rw [IntWalk.i64_in _ (by omega)]; omega
    have e14 : wr.cell? ⟨w.heap.size, j15, none⟩ = some (W (gw (wl l k) 14)) := hb.out.get (wcells_get _ _ _ (by rw [wl_length]; omega))
    have l15 : (j15 : Int) < 64 := by omega
    have HJ15 := Lib.hid hj15
    clear hj15
    obtain ⟨j16, hj16⟩ : ∃ j, j + 16 = k := ⟨k - 16, by omega⟩
    have s16 : IntKind.i64.wrap ((k : Int) - 16) = (j16 : Int) := by rw [IntWalk.i64_in _ (by omega)]; omega
    have e15 : wr.cell? ⟨w.heap.size, j16, none⟩ = some (W (gw (wl l k) 15)) := hb.out.get (wcells_get _ _ _ (by rw [wl_length]; omega))
    have l16 : (j16 : Int) < 64 := by omega
    have HJ16 := Lib.hid hj16
    clear hj16
    have e0 : wr.cell? ⟨w.heap.size, k, none⟩ = some (.int .u32 0) := hb.out.get (by have := wcells_zero (wl l k) (by rw [wl_length]; exact hlt); rwa [wl_length] at this)
    have e00 := hb.out.frozen k
    go_wp2_with fail
    refine Text.wp_region_text (fun _ => True) [(0, 4), (1, 4), (2, 4), (4, 4), (5, 4), (6, 4), (3, 1), (8, 4), (7, 1), (9, 4)] (by kernel_rfl) (by kernel_rfl) (fun _ _ _ _ _ h => h) (trivial) ?_
    iterate 6 (refine Text.purek rfl rfl (fun K hK => ⟨_, fun w' => by go_simp <;> rfl, ?_⟩); go_simp; refine hK _ ?_; clear hK K)
    (refine Text.readk rfl rfl (fun K hK => ⟨_, by go_simp <;> rfl, ?_⟩); go_simp; refine hK _ ?_; clear hK K)
    (refine Text.purek rfl rfl (fun K hK => ⟨_, fun w' => by go_simp <;> rfl, ?_⟩); go_simp; refine hK _ ?_; clear hK K)
    (refine Text.readk rfl rfl (fun K hK => ⟨_, by go_simp <;> rfl, ?_⟩); go_simp; refine hK _ ?_; clear hK K)
    (refine Text.purek rfl rfl (fun K hK => ⟨_, fun w' => by go_simp <;> rfl, ?_⟩); go_simp; refine hK _ ?_; clear hK K)
    refine Text.done ?_
    go_wp2_with (first
     | (go_at_call 148; (with_reducible refine (rot17_any _ _).mono ?_); rintro e w' ⟨rfl, rfl⟩)
     | (go_at_call 148; (with_reducible refine (rot19_any _ _).mono ?_); rintro e w' ⟨rfl, rfl⟩)
     | (go_at_call 148; (with_reducible refine (rot7_any _ _).mono ?_); rintro e w' ⟨rfl, rfl⟩)
     | (go_at_call 148; (with_reducible refine (rot18_any _ _).mono ?_); rintro e w' ⟨rfl, rfl⟩))
    refine Text.wp_region_text (fun _ => True) [(0, 4), (1, 4), (2, 4), (3, 4), (4, 4), (7, 4), (9, 4), (10, 4), (11, 4), (5, 1), (6, 4), (8, 4), (12, 1), (13, 4), (14, 4), (15, 2)] (by kernel_rfl) (by kernel_rfl) (fun _ _ _ _ _ h => h) (trivial) ?_
    iterate 9 (refine Text.purek rfl rfl (fun K hK => ⟨_, fun w' => by go_simp <;> rfl, ?_⟩); go_simp; refine hK _ ?_; clear hK K)
    (refine Text.readk rfl rfl (fun K hK => ⟨_, by go_simp <;> rfl, ?_⟩); go_simp; refine hK _ ?_; clear hK K)
    iterate 2 (refine Text.purek rfl rfl (fun K hK => ⟨_, fun w' => by go_simp <;> rfl, ?_⟩); go_simp; refine hK _ ?_; clear hK K)
    (refine Text.readk rfl rfl (fun K hK => ⟨_, by go_simp <;> rfl, ?_⟩); go_simp; refine hK _ ?_; clear hK K)
    iterate 2 (refine Text.purek rfl rfl (fun K hK => ⟨_, fun w' => by go_simp <;> rfl, ?_⟩); go_simp; refine hK _ ?_; clear hK K)
    refine Text.eff rfl rfl (fun K hK => ?_)
    go_simp
    first | rw [sched_val] | rw [sched_val2]
    obtain ⟨x, hx⟩ : ∃ x, x = ss1 (gw (wl l k) 1) + gw (wl l k) 6 + ss0 (gw (wl l k) 14) + gw (wl l k) 15 := ⟨_, rfl⟩
    rw [← hx]
    have HB2 : Hid (BL (wr.setCell ⟨w.heap.size, k, none⟩ (W x)) w.heap.size 210 (wcells (wl l (k + 1)))) := Lib.hid (by
     have := hb.out.set_ k (W x)
     have e := wcells_set (wl l k) x (by rw [wl_length]; exact hlt)
     rw [wl_length] at e
     rw [e] at this
     rw [nxt_wl l k (by omega), ← hx]
     exact this)
    have HW2 : Hid (Kp (· = w.heap.size) w1 (wr.setCell ⟨w.heap.size, k, none⟩ (W x))) := Lib.hid (hw.out.set (.inl rfl) _)
    refine hK _ _ trivial ?_
    clear hK K e0 e00 e1 e6 e14 e15 hx
    refine Text.done ?_
    generalize wr.setCell ⟨w.heap.size, k, none⟩ (W x) = w2 at HB2 HW2 ⊢
    clear s2 s7 s15 s16
    go_wp2_with fail
    go_roundw
    case rel => exact ⟨k + 1, by omega, by go_num, Lib.hid HB2.out.drew.drew, Lib.hid HW2.out.drew.drew⟩
    case measure => simp [intOf]; omega
  ·
   obtain rfl : k = 64 := by omega
   have HGr := Lib.hid ((HG.out.kept HW1.out).kp hw.out (by show ¬ g = w.heap.size; have := HG.out.lt; omega))
   go_wp2_with (first
    | ((with_reducible show OpW 106); refine wpList_loadv _ rfl 171 (.tmp 105) rfl 8 (by kernel_rfl) g 0 s.cells rfl ((BL.all HGr.out).left) rfl ?_)
    | ((with_reducible show OpW 11); refine wpList_alloc _ rfl 171 rfl (List.replicate 8 (.int .u32 0)) (by kernel_rfl) ?_; intro w2 hb2 hw2 hz2)
    | ((with_reducible show OpN); refine wpList_storev _ rfl 171 (.tmp 11) (.tmp 106) rfl 8 (by kernel_rfl) wr.heap.size 0 _ _ s.cells rfl rfl hb2 rfl (by simp [St.cells, Value.oneCell']) (by decide) ?_; intro w3 hb3 hk3 hz3))
   have hsp : splice (List.replicate 8 (Value.int .u32 0)) 0 s.cells = s.cells := by simp [splice, St.cells]
   rw [hsp] at hb3
   have q0 := hb3.get (j := 0) (v := W s.a) rfl
   have q1 := hb3.get (j := 1) (v := W s.b) rfl
   have q2 := hb3.get (j := 2) (v := W s.c) rfl
   have q3 := hb3.get (j := 3) (v := W s.d) rfl
   have q4 := hb3.get (j := 4) (v := W s.e) rfl
   have q5 := hb3.get (j := 5) (v := W s.f) rfl
   have q6 := hb3.get (j := 6) (v := W s.g) rfl
   have q7 := hb3.get (j := 7) (v := W s.h) rfl
   have HB3 := Lib.hid hb3
   have HK3 : Hid (Kp (· = wr.heap.size) w2 w3) := Lib.hid hk3
   have HBr := Lib.hid (hb.out.kept hw2)
   have HW2 := Lib.hid hw2
   have HGr2 := Lib.hid (HGr.out.kept hw2)
   obtain ⟨gv, hgv⟩ : ∃ gv, gv = wr.heap.size := ⟨_, rfl⟩
   have HGV := Lib.hid hgv
   rw [← hgv] at q0 q1 q2 q3 q4 q5 q6 q7 ⊢
   clear hgv hb3 hk3 hb2 hw2 hz2 hz3 hsp HGr
   go_wp2_with fail
   refine Text.wp_region_text (fun _ => True) [(0, 4), (2, 4), (4, 4), (6, 4), (8, 4), (10, 4), (12, 4), (14, 4), (1, 1), (16, 4), (3, 1), (17, 4), (5, 1), (18, 4), (7, 1), (19, 4), (9, 1), (20, 4), (11, 1), (21, 4), (13, 1), (22, 4), (15, 1), (23, 4)] (by kernel_rfl) (by kernel_rfl) (fun _ _ _ _ _ h => h) (trivial) ?_
   iterate 8 (refine Text.purek rfl rfl (fun K hK => ⟨_, fun w' => by go_simp <;> rfl, ?_⟩); go_simp; refine hK _ ?_; clear hK K)
   (refine Text.readk rfl rfl (fun K hK => ⟨_, by go_simp <;> rfl, ?_⟩); go_simp; refine hK _ ?_; clear hK K)
   (refine Text.purek rfl rfl (fun K hK => ⟨_, fun w' => by go_simp <;> rfl, ?_⟩); go_simp; refine hK _ ?_; clear hK K)
   (refine Text.readk rfl rfl (fun K hK => ⟨_, by go_simp <;> rfl, ?_⟩); go_simp; refine hK _ ?_; clear hK K)
   (refine Text.purek rfl rfl (fun K hK => ⟨_, fun w' => by go_simp <;> rfl, ?_⟩); go_simp; refine hK _ ?_; clear hK K)
   (refine Text.readk rfl rfl (fun K hK => ⟨_, by go_simp <;> rfl, ?_⟩); go_simp; refine hK _ ?_; clear hK K)
   (refine Text.purek rfl rfl (fun K hK => ⟨_, fun w' => by go_simp <;> rfl, ?_⟩); go_simp; refine hK _ ?_; clear hK K)
   (refine Text.readk rfl rfl (fun K hK => ⟨_, by go_simp <;> rfl, ?_⟩); go_simp; refine hK _ ?_; clear hK K)
   (refine Text.purek rfl rfl (fun K hK => ⟨_, fun w' => by go_simp <;> rfl, ?_⟩); go_simp; refine hK _ ?_; clear hK K)
   (refine Text.readk rfl rfl (fun K hK => ⟨_, by go_simp <;> rfl, ?_⟩); go_simp; refine hK _ ?_; clear hK K)
   (refine Text.purek rfl rfl (fun K hK => ⟨_, fun w' => by go_simp <;> rfl, ?_⟩); go_simp; refine hK _ ?_; clear hK K)
   (refine Text.readk rfl rfl (fun K hK => ⟨_, by go_simp <;> rfl, ?_⟩); go_simp; refine hK _ ?_; clear hK K)
   (refine Text.purek rfl rfl (fun K hK => ⟨_, fun w' => by go_simp <;> rfl, ?_⟩); go_simp; refine hK _ ?_; clear hK K)
   (refine Text.readk rfl rfl (fun K hK => ⟨_, by go_simp <;> rfl, ?_⟩); go_simp; refine hK _ ?_; clear hK K)
   (refine Text.purek rfl rfl (fun K hK => ⟨_, fun w' => by go_simp <;> rfl, ?_⟩); go_simp; refine hK _ ?_; clear hK K)
   (refine Text.readk rfl rfl (fun K hK => ⟨_, by go_simp <;> rfl, ?_⟩); go_simp; refine hK _ ?_; clear hK K)
   (refine Text.purek rfl rfl (fun K hK => ⟨_, fun w' => by go_simp <;> rfl, ?_⟩); go_simp; refine hK _ ?_; clear hK K)
   refine Text.done ?_
   go_wp2_with fail
   have HTr := Lib.hid ((((HT.out.kept HW1.out).kp hw.out (by rintro k rfl; have h9 := HT.out.con 0 _ rfl; have h9 := cell_lt h9; simp at h9; omega)).kept HW2.out).kp HK3.out (by rintro k rfl; have h9 := HT.out.con 0 _ rfl; have h9 := cell_lt h9; simp at h9; have := HW1.out.size; have := hw.out.size; omega))
   have HBs := Lib.hid (HBr.out.kp HK3.out (by have := HBr.out.lt; have := hb.out.lt; show ¬ w.heap.size = wr.heap.size; omega))
   clear q0 q1 q2 q3 q4 q5 q6 q7
   go_loopw [12, 13, 14, 15, 16, 17, 18, 19, 123] (fun xa xb xc xd xe xf xg xh i wz => ∃ (k : Nat) (S : St), k ≤ 64 ∧ i = .int .i64 (k : Int) ∧ xa = W S.a ∧ xb = W S.b ∧ xc = W S.c ∧ xd = W S.d ∧ xe = W S.e ∧ xf = W S.f ∧ xg = W S.g ∧ xh = W S.h ∧ Hid (S = rk s l k) ∧ Hid (∃ n, wz = w3.drewN n)) (fun _ _ _ _ _ _ _ _ i _ => 64 - (intOf i).toNat)
   case atStart => exact ⟨0, s, by omega, rfl, rfl, rfl, rfl, rfl, rfl, rfl, rfl, rfl, Lib.hid rfl, Lib.hid ⟨1, rfl⟩⟩
   case round =>
    obtain ⟨k, S, hk2, rfl, rfl, rfl, rfl, rfl, rfl, rfl, rfl, rfl, hS, hwz⟩ := hrel
    by_cases hlt2 : k < 64
    ·
     obtain ⟨nz, rfl⟩ := hwz.out
     have e1 : (w3.drewN nz).cell? ⟨2, k, none⟩ = some (W (gw ks k)) := by
      have := HTr.out.con k (W (gw ks k)) (by rw [List.getElem?_map, List.getElem?_eq_getElem (by show k < 64; exact hlt2)]; simp [gw, List.getD, List.getElem?_eq_getElem (show k < ks.length by show k < 64; exact hlt2)])
      rw [Nat.zero_add] at this
      exact this
     have e2 : (w3.drewN nz).cell? ⟨w.heap.size, k, none⟩ = some (W (gw (ws l) k)) := HBs.out.get (wcells_ws l k hlt2)
     have HR : Hid (rnd S (gw ks k) (gw (ws l) k) = rk s l (k + 1)) := Lib.hid (by rw [rk, ← hS.out])
     obtain ⟨wz, hz⟩ : ∃ wz, wz = w3.drewN nz := ⟨_, rfl⟩
     have HZ := Lib.hid hz
     rw [← hz] at e1 e2 ⊢
     clear hz hS hwz
     obtain ⟨kk, hkk⟩ : ∃ x, x = gw ks k := ⟨_, rfl⟩
     obtain ⟨kw, hkw⟩ : ∃ x, x = gw (ws l) k := ⟨_, rfl⟩
     rw [← hkk, ← hkw] at HR
     rw [← hkk] at e1
     rw [← hkw] at e2
     clear hkk hkw
     go_wp2_with (first
      | (go_at_call 148; (with_reducible refine (rot6_any _ _).mono ?_); rintro e w' ⟨rfl, rfl⟩)
      | (go_at_call 148; (with_reducible refine (rot11_any _ _).mono ?_); rintro e w' ⟨rfl, rfl⟩)
      | (go_at_call 148; (with_reducible refine (rot25_any _ _).mono ?_); rintro e w' ⟨rfl, rfl⟩)
      | (go_at_call 148; (with_reducible refine (rot2_any _ _).mono ?_); rintro e w' ⟨rfl, rfl⟩)
      | (go_at_call 148; (with_reducible refine (rot13_any _ _).mono ?_); rintro e w' ⟨rfl, rfl⟩)
      | (go_at_call 148; (with_reducible refine (rot22_any _ _).mono ?_); rintro e w' ⟨rfl, rfl⟩))
     refine Text.wp_region_text (fun _ => True) [(0, 4), (1, 4), (2, 4), (3, 4), (4, 4), (5, 4), (6, 4), (7, 4), (8, 4), (9, 4), (10, 4), (11, 4), (12, 4), (13, 4), (16, 4), (17, 4), (14, 1), (15, 4), (18, 1), (19, 4), (20, 4)] (by kernel_rfl) (by kernel_rfl) (fun _ _ _ _ _ h => h) (trivial) ?_
     iterate 16 (refine Text.purek rfl rfl (fun K hK => ⟨_, fun w' => by go_simp <;> rfl, ?_⟩); go_simp; refine hK _ ?_; clear hK K)
     (refine Text.readk rfl rfl (fun K hK => ⟨_, by go_simp <;> rfl, ?_⟩); go_simp; refine hK _ ?_; clear hK K)
     (refine Text.purek rfl rfl (fun K hK => ⟨_, fun w' => by go_simp <;> rfl, ?_⟩); go_simp; refine hK _ ?_; clear hK K)
     (refine Text.readk rfl rfl (fun K hK => ⟨_, by go_simp <;> rfl, ?_⟩); go_simp; refine hK _ ?_; clear hK K)
     iterate 2 (refine Text.purek rfl rfl (fun K hK => ⟨_, fun w' => by go_simp <;> rfl, ?_⟩); go_simp; refine hK _ ?_; clear hK K)
     refine Text.done ?_
     go_wp2_with fail
     go_roundw
     case rel => exact ⟨k + 1, rnd S kk kw, by omega, by go_num, rfl, rfl, rfl, rfl, rfl, rfl, rfl, rfl, HR, Lib.hid ⟨nz + 1, by rw [HZ.out]; rfl⟩⟩
     case measure => simp [intOf]; omega
    ·
     obtain rfl : k = 64 := by omega
     rw [show ((64 : Nat) : Int) = 64 from rfl]
     obtain ⟨nz, hz⟩ := hwz.out
     have HZ := Lib.hid hz
     clear hz hwz
     obtain ⟨wr0, hwr0⟩ : ∃ x, x = wr := ⟨_, rfl⟩
     rw [← hwr0] at HZ
     have HK0 : Hid (Kp (· = g) wr0 wr) := Lib.hid (by rw [hwr0]; exact Kp.refl _ _)
     have HWR := Lib.hid hwr0
     clear hwr0
     have HKW : Hid (Kp (· = g) w wr0) := Lib.hid (by
      have a1 : Kp (· = g) w w1 := Kp.of_below HW1.out
      have a2 := a1.after hw.out (fun i hi e => by omega)
      have a3 := a2.then HW2.out
      have a4 := a3.after HK3.out (fun i hi e => by have := hw.out.size; have := HW1.out.size; omega)
      rw [HZ.out]; exact a4.drewN nz)
     have HCr : Hid (s.add S = comp s l) := Lib.hid (by rw [hS.out]; exact (comp_rk s l).symm)
     go_wp2_with fail
     have HNE : Hid (¬ g = gv) := Lib.hid (by have := HG.out.lt; have := hw.out.size; have := HW1.out.size; have := HGV.out; omega)
     have HGz : Hid (BL wr0 g t (s.cells ++ rest)) := Lib.hid (by rw [HZ.out]; exact (HGr2.out.kp HK3.out (by have := HNE.out; have e9 := HGV.out; rw [e9] at this; exact this)).drewN nz)
     have HV : Hid (BL wr0 gv 171 s.cells) := Lib.hid (by rw [HZ.out, HGV.out]; exact HB3.out)
     have hE : (#[W S.a, W S.b, W S.c, W S.d, W S.e, W S.f, W S.g, W S.h] : Array Value) = S.cells.toArray := rfl
     rw [hE]
     clear hE
     go_loopw [197] (fun i wx => ∃ k : Nat, k ≤ 8 ∧ i = .int .i64 (k : Int) ∧ Hid (BL wx g t (mixC (s.add S) s rest k)) ∧ Hid (Kp (· = g) wr0 wx)) (fun i _ => 8 - (intOf i).toNat)
     case atStart => exact ⟨0, by omega, rfl, Lib.hid (by rw [← HWR.out]; exact HGz.out), HK0⟩
     case round =>
      obtain ⟨k, hk8, rfl, hbx, hkx⟩ := hrel
      by_cases hlt8 : k < 8
      ·
       have c1 := run_index (P := Tryz.prog) wr Tryz.underlying171 (by kernel_rfl) (by kernel_rfl) hlt8 (by rw [List.getElem?_toArray]; exact cells_sw S k hlt8)
       have c2 : wr.cell? ⟨gv, k, none⟩ = some (W (sw s k)) := (HV.out.kp hkx.out (fun e => HNE.out e.symm)).get (cells_sw s k hlt8)
       have c3 : wr.cell? ⟨g, k, none⟩ = some (W (sw s k)) := hbx.out.get (mixC_get _ _ _ _ hlt8)
       have c4 := hbx.out.frozen k
       have HB9 : Hid (BL (wr.setCell ⟨g, k, none⟩ (W (sw s k + sw S k))) g t (mixC (s.add S) s rest (k + 1))) := Lib.hid (by
        have h9 := hbx.out.set_ k (W (sw (s.add S) k))
        rw [mixC_set _ _ _ _ hlt8, sw_add s S k hlt8] at h9
        exact h9)
       have HK9 : Hid (Kp (· = g) wr0 (wr.setCell ⟨g, k, none⟩ (W (sw s k + sw S k)))) := Lib.hid (hkx.out.set (.inl rfl) _)
       go_wp2_with fail
       refine Text.wp_region_text (fun _ => True) [(0, 4), (1, 4), (2, 4), (3, 4), (5, 4), (7, 4), (8, 4), (4, 1), (6, 4), (9, 4), (10, 2)] (by kernel_rfl) (by kernel_rfl) (fun _ _ _ _ _ h => h) (trivial) ?_
       iterate 7 (refine Text.purek rfl rfl (fun K hK => ⟨_, fun w' => by go_simp <;> rfl, ?_⟩); go_simp; refine hK _ ?_; clear hK K)
       (refine Text.readk rfl rfl (fun K hK => ⟨_, by go_simp <;> rfl, ?_⟩); go_simp; refine hK _ ?_; clear hK K)
       iterate 2 (refine Text.purek rfl rfl (fun K hK => ⟨_, fun w' => by go_simp <;> rfl, ?_⟩); go_simp; refine hK _ ?_; clear hK K)
       refine Text.eff rfl rfl (fun K hK => ?_)
       go_simp
       refine hK _ _ trivial ?_
       clear hK K c1 c2 c3 c4
       refine Text.done ?_
       generalize wr.setCell ⟨g, k, none⟩ (W (sw s k + sw S k)) = w8 at HB9 HK9 ⊢
       go_wp2_with fail
       go_roundw
       case rel => exact ⟨k + 1, by omega, by go_num, Lib.hid HB9.out.drew, Lib.hid HK9.out.drew⟩
       case measure => simp [intOf]; omega
      ·
       obtain rfl : k = 8 := by omega
       have HEND : Hid (BL wr g t ((comp s l).cells ++ rest)) := Lib.hid (by rw [← HCr.out, ← mixC_all (s.add S) s rest]; exact hbx.out)
       have HKE : Hid (Kp (· = g) w wr) := Lib.hid (HKW.out.after hkx.out (fun i _ e => e))
       go_wp2_with fail
       go_end0
       exact ⟨rfl, HEND.out, HKE.out⟩
end Go.Proofs.YtheijpjfpaghfaaGreatDoor
/- copy of bytes into a part of a block; []byte(s) and string(b). -/
namespace Go.Proofs.YtheijpjfpaghfaaGreatDoor
open Go Go.RowKit Gf

section
variable {P : Program} (w : World)
/-- What copy(dst, src) does: dst a part of a block that is known whole. -/
theorem run_copyB {ty te rt : TypeId} (hu : P.underlying ty = some (.slice te)) (hsz : (match P.info? te with | some i => i.size == 1 | none => false) = true)
  {g o m mc : Nat} {tb : TypeId} {l : List Value} (hb : BL w g tb l) {A : Option Addr} {n c : Nat} {x : List UInt8} (hs : BS w A n c x) (ho : o + m ≤ l.length) :
  ∃ w', (Builtin.copy_ #[ty, ty] rt #[.slice (some ⟨g, o, none⟩) m mc, .slice A n c]).run P w = .ok (.int .i64 ((min n m : Nat) : Int)) w' ∧ BL w' g tb (splice l o ((x.take (min n m)).map B)) ∧ Kp (· = g) w w' ∧ w'.heap.size = w.heap.size := by
 have h2 : (sizeOf te).run P w = .ok 1 w := by
  cases hi : P.info? te with
  | none => simp [hi] at hsz
  | some i => simp [hi] at hsz; simp [sizeOf, typeInfo, hi, hsz]
 have hxl : ((x.take (min n m)).map B).length = min n m := by simp [hs.1]
 have h1 : ∀ v ∈ (x.take (min n m)).map B, v.oneCell' = true := by
  intro v hv
  obtain ⟨b, _, rfl⟩ := List.mem_map.1 hv
  rfl
 obtain ⟨w', hr, hb', hk, hz⟩ := run_storeCells (P := P) ((x.take (min n m)).map B) h1 o (min n m) 0 l w (by omega) hb (by omega)
 refine ⟨w', ?_, hb', hk, hz⟩
 have hf : (Builtin.firstCells 1 (min n m) (.slice A n c)).run P w = .ok ((x.take (min n m)).map B).toArray w := by
  cases A with
  | none =>
   have h0 : n = 0 := by
    rcases Nat.eq_zero_or_pos n with h0 | h0
    ·
     exact h0
    ·
     obtain ⟨g, o, e, _⟩ := hs.2.2.2 0 h0
     cases e
   subst h0
   simp [Builtin.firstCells]
  | some a =>
   have hl := run_loadCells_list (P := P) w a ((x.take (min n m)).map B) (fun j v hv => by
    obtain ⟨hj, hv2⟩ := List.getElem?_eq_some_iff.1 hv
    rw [hxl] at hj
    obtain ⟨g', o', e, hc⟩ := hs.2.2.2 j (by omega)
    obtain rfl := Option.some.inj e
    rw [addr_add, hc]
    show some (B (gB x j)) = _
    rw [gB_eq (by rw [hs.1]; omega), ← hv2]
    simp)
   rw [hxl] at hl
   simp [Builtin.firstCells, hl]
 rw [List.drop_zero] at hr
 have e1 : Nat.min n m = min n m := rfl
 generalize (x.take (min n m)).map B = ys at hf hr
 simp [Builtin.copy_, run_underlying hu, Builtin.lenOf, e1, h2, hf, hr, goInt, Result.andThen]

theorem wpList_copyB {ops : Array Oper} {rest : List Oper} {o : Oper} {a : Act} {Q : Exit → Act → World → Prop} (hg : o.guard = none) (s x : Operand) (ty te : TypeId) (hop : o.op = .call { callee := .builtin .copy, args := #[s, x], argTypes := #[ty, ty] })
  (hu : P.underlying ty = some (.slice te)) (hsz : (match P.info? te with | some i => i.size == 1 | none => false) = true)
  (g p m mc : Nat) (tb : TypeId) (l : List Value) (hs : a.eval s = .slice (some ⟨g, p, none⟩) m mc) (hb : BL w g tb l) (A : Option Addr) (n c : Nat) (xs : List UInt8) (hx : a.eval x = .slice A n c) (hxs : BS w A n c xs) (ho : p + m ≤ l.length)
  (h : ∀ w', BL w' g tb (splice l p ((xs.take (min n m)).map B)) → Kp (· = g) w w' → w'.heap.size = w.heap.size → wpList P ops Q rest (a.put o.dst (.int .i64 ((min n m : Nat) : Int))) w') : wpList P ops Q (o :: rest) a w :=
 wpList_plain hg fun K hK => by
  obtain ⟨w', hr, h2, h3, h4⟩ := run_copyB w (rt := o.type) hu hsz hb (mc := mc) hxs ho
  unfold Oper.wp execOp
  simp only [hop, resolve, invoke, builtin, Sem.run_bind, Sem.run_pure, Result.andThen_ok, List.map_toArray, List.map_cons, List.map_nil, hs, hx, hr]
  exact hK _ _ (h w' h2 h3 h4)
end

/-- The string of bytes. -/
def strB (l : List UInt8) : ByteArray := ⟨l.toArray⟩
theorem strB_inj {l l' : List UInt8} (h : strB l = strB l') : l = l' := by
 unfold strB at h
 injection h with h
 simpa using congrArg Array.toList h
theorem strB_list (l : List UInt8) : (strB l).toList = l := by rw [ByteArray.toList_eq]; rfl
theorem strB_of (s : ByteArray) : strB s.data.toList = s := rfl
theorem strB_size (l : List UInt8) : (strB l).size = l.length := rfl
theorem strB_eq (l l' : List UInt8) : ((strB l).toList == (strB l').toList) = decide (l = l') := by
 rw [strB_list, strB_list]
 by_cases h : l = l'
 ·
  simp [h]
 ·
  simp [h]
theorem strB_nums (l : List UInt8) : strOfNums (l.map bv) = strB l := by
 unfold strOfNums strB
 congr 2
 rw [List.map_map]
 conv => rhs; rw [← List.map_id l]
 apply List.map_congr_left
 intro x _
 simp [bv]
theorem conv_str {w : World} {A : Option Addr} {n c : Nat} {l : List UInt8} (h : BS w A n c l) :
  (convert 22 9 (.slice A n c)).run Tryz.prog w = .ok (.string (strB l)) w := by
 cases A with
 | none =>
  have h0 : n = 0 := by
   rcases Nat.eq_zero_or_pos n with h0 | h0
   ·
    exact h0
   ·
    obtain ⟨g, o, e, _⟩ := h.2.2.2 0 h0
    cases e
  have hl : l = [] := List.eq_nil_of_length_eq_zero (by rw [h.1, h0])
  rw [run_convert_bytes_nil w _ _ Tryz.underlying22 Tryz.underlying5 n c _ Tryz.underlying9, hl]
  rfl
 | some a =>
  by_cases h0 : n = 0
  ·
   have hl : l = [] := List.eq_nil_of_length_eq_zero (by rw [h.1, h0])
   subst h0 hl
   refine (run_convert_bytes_string w 22 9 5 (some a) 0 c Tryz.underlying22 Tryz.underlying5 Tryz.underlying9).trans ?_
   exact run_bytesToString w a 0 c [] (run_loadCells_list (P := Tryz.prog) w a [] (fun j v hj => by simp at hj))
  ·
   obtain ⟨g, o, e, _⟩ := h.2.2.2 0 (by omega)
   obtain rfl := Option.some.inj e
   rw [run_convert_bytes_arg w _ _ Tryz.underlying22 Tryz.underlying5 g o n c (l.map bv) (by simp [h.1]) (fun i hi => by
    obtain ⟨g', o', e', hc⟩ := h.2.2.2 i hi
    cases Option.some.inj e'
    have hl : i < l.length := by rw [h.1]; exact hi
    rw [hc]
    show some (B (gB l i)) = _
    rw [gB_eq hl, B]
    simp [List.getD, List.getElem?_eq_getElem hl]) _ Tryz.underlying9, strB_nums]

/-- Behind '[]byte(s)': the bytes, perhaps more cells, and the mark behind the last one. -/
def Conv (w : World) (l : List UInt8) (w' : World) (cap : Nat) : Prop :=
 w'.heap[w.heap.size]? = some (.cells (bytesRow (strB l) cap) 5 ((bytesRow (strB l) cap).size, (bytesRow (strB l) cap).size + 1)) ∧ l.length ≤ cap ∧ Below w.heap.size w w' ∧ w'.heap.size = w.heap.size + 1
theorem conv_bytes (l : List UInt8) (w : World) : ∃ w' cap, (convert 9 22 (.string (strB l))).run Tryz.prog w = .ok (.slice (some ⟨w.heap.size, 0, none⟩) l.length cap) w' ∧ Conv w l w' cap := by
 have hr := run_bytes_of_string (P := Tryz.prog) w 9 22 5 (strB l) Tryz.underlying9 Tryz.underlying22 Tryz.underlying5
 refine ⟨_, _, hr, ?_, ?_, ?_, by simp⟩
 ·
  exact heap_alloc_new w.drew _
 ·
  show l.length ≤ (Question.appendCap (strB l).size 0 5).cut (w.tape w.drawn (.appendCap (strB l).size 0 5))
  rw [strB_size]
  unfold Question.cut
  exact Nat.le_add_right _ _
 ·
  exact ((Below.refl _ _).drew).alloc (Nat.le_refl _) _
theorem Conv.bs {w w' : World} {l : List UInt8} {cap : Nat} (h : Conv w l w' cap) (hl : l.length ≤ lim) : BS w' (some ⟨w.heap.size, 0, none⟩) l.length cap l :=
 ⟨rfl, h.2.1, hl, fun k hk => ⟨w.heap.size, 0, rfl, by
  rw [Nat.zero_add, cell_of_row w' w.heap.size k _ _ _ h.1, bytesRow_at (strB l) cap k (by show k < l.length; exact hk)]
  show _ = some (B (gB l k))
  rw [gB_eq hk]; rfl⟩⟩
theorem wpList_convB (w : World) {ops : Array Oper} {rest : List Oper} {o : Oper} {a : Act} {Q : Exit → Act → World → Prop} (hg : o.guard = none) (x : Operand) (hop : o.op = .convert 9 22 x) (l : List UInt8) (hx : a.eval x = .string (strB l))
  (h : ∀ w' cap, Conv w l w' cap → wpList Tryz.prog ops Q rest (a.put o.dst (.slice (some ⟨w.heap.size, 0, none⟩) l.length cap)) w') : wpList Tryz.prog ops Q (o :: rest) a w :=
 wpList_plain hg fun K hK => by
  obtain ⟨w', cap, hr, h2⟩ := conv_bytes l w
  unfold Oper.wp execOp
  simp only [hop, hx]
  simp [hr, Result.andThen]
  exact hK _ _ (h w' cap h2)
end Go.Proofs.YtheijpjfpaghfaaGreatDoor
