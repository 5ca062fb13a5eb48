/- Several texts in one: Hm1, Hm2, Grow. -/
import Derived.Test.YtheijpjfpaghfaaGreatDoorC8
import Derived.Test.YtheijpjfpaghfaaGreatDoorC6
import Derived.Test.YtheijpjfpaghfaaGreatDoorC7
import Derived.Test.YtheijpjfpaghfaaGreatDoorC5
import Derived.Deep.AppendSrc
import Derived.Lib.AppendStr
/- Contracts of hmac.New, Mac.Write, Mac.Sum, Tag for keys of at most 64 bytes. -/
namespace Go.Proofs.YtheijpjfpaghfaaGreatDoor
open Go.RowKit Gf Sha

/-- The key filled up. -/
def keyp (k : List UInt8) : List UInt8 := k ++ List.replicate (64 - k.length) 0
theorem keyp_length (k : List UInt8) (h : k.length ≤ 64) : (keyp k).length = 64 := by simp [keyp]; omega
/-- The tag. -/
def tagL (k d : List UInt8) : List UInt8 := sha (xr 0x5c (keyp k) ++ sha (xr 0x36 (keyp k) ++ d))
theorem tagL_length (k d : List UInt8) : (tagL k d).length = 32 := rfl

theorem Tabs.drew {w : World} (h : Tabs w) : Tabs w.drew := ⟨h.pads, h.ini, h.con⟩
/-- The value of hmac.state. -/
theorem build_state (a o : List Value) (ha : a.length = 73) (ho : o.length = 64) (w : World) : (Instr.build 178 #[(0, .agg a.toArray), (1, .agg o.toArray)]).run Tryz.prog w = .ok (.agg (a ++ o).toArray) w := by
 have hz1 := run_zero (P := Tryz.prog) (w := w) (t := 178) (z := .agg (stv ⟨0, 0, 0, 0, 0, 0, 0, 0⟩ (List.replicate 64 0) 0 (List.replicate 64 (.int .u8 0))).toArray) (by kernel_rfl)
 have h1 : (sizeOf 173).run Tryz.prog w = .ok 73 w := by kernel_rfl
 have h2 : (sizeOf 168).run Tryz.prog w = .ok 64 w := by kernel_rfl
 exact build_two (P := Tryz.prog) (w := w) Tryz.underlying178 rfl rfl h1 h2 _ hz1 (by kernel_rfl) a o ha ho
theorem build_mac (l : List Value) (hl : l.length = 137) (w : World) : (Instr.build 180 #[(0, .agg l.toArray)]).run Tryz.prog w = .ok (.agg l.toArray) w := by
 have hz1 := run_zero (P := Tryz.prog) (w := w) (t := 180) (z := .agg (stv ⟨0, 0, 0, 0, 0, 0, 0, 0⟩ (List.replicate 64 0) 0 (List.replicate 64 (.int .u8 0))).toArray) (by kernel_rfl)
 have h1 : (sizeOf 178).run Tryz.prog w = .ok 137 w := by kernel_rfl
 exact build_one (P := Tryz.prog) (w := w) Tryz.underlying180 rfl h1 _ hz1 (by kernel_rfl) l hl
/-- A Mac: what was written, and the outer key. -/
def Mc (w : World) (g : Nat) (k l : List UInt8) : Prop := Hs w g 180 ((xr 0x5c (keyp k)).map B) (xr 0x36 (keyp k) ++ l)

set_option maxRecDepth 100000 in
set_option maxHeartbeats 2000000 in
theorem hnew_any (k : List UInt8) (w : World) (hT : Tabs w) (hk : k.length ≤ 64) :
  Calls Tryz.prog 83 #[.string (strB k)] w fun e w' => ∃ g, e = .returned (.pointer (some ⟨g, 0, none⟩)) ∧ w.heap.size ≤ g ∧ Mc w' g k [] ∧ Below w.heap.size w w' := by
 have HT := Lib.hid hT
 have hsz : (strB k).size ≤ 64 := hk
 have HK := Lib.hid hk
 clear hT hk
 go_enter Tryz.func83, Tryz.ntmps83
 have HZ0 : Hid (0 + 64 ≤ ((List.replicate 64 (0 : UInt8)).map B).length) := Lib.hid (by decide)
 go_wp2_with (first
  | ((with_reducible show OpW 3); refine wpList_alloc _ rfl 168 rfl _ zero_arr ?_; intro w2 b1 b2 b3; have HB1 := Lib.hid b1; have HB2 := Lib.hid b2; clear b1 b2 b3)
  | ((with_reducible show OpW 15); refine wpList_copyS _ rfl (.tmp 13) (.tmp 14) 22 9 5 rfl Tryz.underlying22 (by kernel_rfl) w.heap.size 0 64 64 168 _ rfl HB1.out k rfl HZ0.out ?_; intro w3 c1 c2 c3; have HC1 := Lib.hid c1; have HC2 := Lib.hid c2; clear c1 c2 c3))
 have hk3 : BL w3 w.heap.size 168 ((keyp k).map B) := by
  have e : splice ((List.replicate 64 (0 : UInt8)).map B) 0 ((k.take (min k.length 64)).map B) = (keyp k).map B := by
   have := HK.out
   rw [Nat.min_eq_left this, List.take_of_length_le (Nat.le_refl _)]
   unfold splice keyp
   rw [List.take_zero, List.nil_append, Nat.zero_add, List.length_map, ← List.map_drop, List.drop_replicate, List.map_append]
  rw [← e]; exact HC1.out
 have HK3 := Lib.hid hk3
 have HKL : Hid ((keyp k).length = 64) := Lib.hid (keyp_length k HK.out)
 have HT3 : Hid (Tabs w3) := Lib.hid ((HT.out.kept HB2.out).kp HC2.out (by rintro k rfl; exact HT.out.size))
 have HW3 : Hid (Below w.heap.size w w3) := Lib.hid (((Kp.of_below (S := fun _ => False) HB2.out).after HC2.out (fun i hi e => by omega)).below (Nat.le_refl _) (fun _ h => h.elim))
 clear hk3
 refine Text.wp_region_bt (fun w' => Tabs w') (.still 3 4 (.still 4 4 (.still 5 0 (.eff 0 (.still 1 4 (.br 2 (.eff 6 (.still 7 4 (.still 8 4 (.eff 9 (.still 10 4 .leaf))))) 6 (.eff 2 (.still 7 4 (.still 8 4 (.eff 9 (.still 10 4 .leaf))))))))))) (by kernel_rfl) (by kernel_rfl) (fun _ _ _ _ _ h => h) (HT3.out.drew) ?_
 obtain ⟨wd, hwd⟩ : ∃ x, x = w3.drew := ⟨_, rfl⟩
 have HKd : Hid (BL wd w.heap.size 168 ((keyp k).map B)) := Lib.hid (by rw [hwd]; exact HK3.out)
 have HTd : Hid (Tabs wd) := Lib.hid (by rw [hwd]; exact HT3.out.drew)
 have HWd : Hid (Below w.heap.size w wd) := Lib.hid (by rw [hwd]; exact HW3.out.drew)
 rw [← hwd]
 clear hwd
 iterate 2 (refine Text.bpurek rfl rfl (fun K hK => ⟨_, fun w' => by go_simp <;> rfl, ?_⟩); go_simp; refine hK _ ?_; clear hK K)
 (refine Text.bheldk rfl rfl (fun K hK => ⟨_, fun w' hw' => by have h9 := hw'.pads.get (j := 1) (p := 1) rfl rfl; go_simp <;> rfl, ?_⟩); go_simp; refine hK _ ?_; clear hK K)
 refine Text.beff rfl rfl (fun K hK => ?_)
 go_simp
 refine (new_any wd HTd.out).mono ?_
 rintro e w4 ⟨rfl, d1, d2⟩
 obtain ⟨bf, s1, s2, s3⟩ := d1
 have HA4 := Lib.hid (BL.all s2)
 have HBF := Lib.hid s1
 have HK4 := Lib.hid (HKd.out.kept d2)
 have HT4 := Lib.hid (HTd.out.kept d2)
 have HW4 := Lib.hid (below_then HWd.out (d2.mono (Nat.le_refl _)))
 have HSL : Hid ((stv (hs []) bf 0 []).length = 73) := Lib.hid (stv_first_length _ _ _ s1)
 have HOL : Hid (((xr 92 (keyp k)).map B).length = 64) := Lib.hid (by rw [List.length_map, xr_length]; exact HKL.out)
 have HIL : Hid (((xr 54 (keyp k)).map B).length = 64) := Lib.hid (by rw [List.length_map, xr_length]; exact HKL.out)
 have HIE : Hid (((xr 54 (keyp k)).map B).length = ((List.replicate 64 (0 : UInt8)).map B).length) := Lib.hid (by rw [HIL.out, List.length_map, List.length_replicate])
 have HAL : Hid ((stv (hs []) bf 0 [] ++ (xr 92 (keyp k)).map B).length = 137) := Lib.hid (by rw [List.length_append, HSL.out, HOL.out])
 refine hK _ _ HT4.out ?_
 clear hK K d2 s1 s2 s3
 (refine Text.bpurek rfl rfl (fun K hK => ⟨_, fun w' => by go_simp <;> rfl, ?_⟩); go_simp; refine hK _ ?_; clear hK K)
 refine Text.bfork ?_ ?_
 ·
  refine Text.beff rfl rfl (fun K hK => ?_)
  refine wp_loadv 173 (.tmp 18) rfl 73 (by kernel_rfl) wd.heap.size 0 (stv (hs []) bf 0 []) rfl HA4.out HSL.out ?_
  refine hK _ _ HT4.out ?_
  clear hK K
  refine Text.beff rfl rfl (fun K hK => ?_)
  go_simp
  refine (comb_any 92 w.heap.size 168 (keyp k) w4 HK4.out HKL.out).mono ?_
  rintro e w5 ⟨rfl, e1⟩
  have HT5 := Lib.hid (HT4.out.kept e1)
  have HK5 := Lib.hid (HK4.out.kept e1)
  have HW5 := Lib.hid (below_then HW4.out (e1.mono (Nat.le_refl _)))
  refine hK _ _ HT5.out ?_
  clear hK K e1
  refine Text.bpurek rfl rfl (fun K hK => ⟨_, fun w' => exec_build (t := 178) (ps := #[(0, .agg (stv (hs []) bf 0 []).toArray), (1, .agg ((xr 92 (keyp k)).map B).toArray)]) rfl (by rw [List.map_toArray]; rfl) (build_state _ _ HSL.out HOL.out w'), ?_⟩)
  refine hK _ ?_
  clear hK K
  refine Text.bpurek rfl rfl (fun K hK => ⟨_, fun w' => exec_build (t := 180) (ps := #[(0, .agg (stv (hs []) bf 0 [] ++ (xr 92 (keyp k)).map B).toArray)]) rfl (by rw [List.map_toArray]; rfl) (build_mac _ HAL.out w'), ?_⟩)
  refine hK _ ?_
  clear hK K
  refine Text.beff rfl rfl (fun K hK => ?_)
  refine wp_box 180 (.tmp 25) rfl (stv (hs []) bf 0 [] ++ (xr 92 (keyp k)).map B) rfl ?_
  intro w6 f1 f2 f3
  have HT6 := Lib.hid (HT5.out.kept f2)
  have HK6 := Lib.hid (HK5.out.kept f2)
  have HW6 := Lib.hid (below_then HW5.out f2)
  obtain ⟨gm, hgm⟩ : ∃ g, g = w5.heap.size := ⟨_, rfl⟩
  have HGM : Hid (w.heap.size ≤ gm) := Lib.hid (by rw [hgm]; exact HW5.out.size)
  rw [← hgm] at f1 ⊢
  have HF1 := Lib.hid f1
  refine hK _ _ HT6.out ?_
  clear hK K f1 f2 f3 hgm
  (refine Text.bpurek rfl rfl (fun K hK => ⟨_, fun w' => by go_simp <;> rfl, ?_⟩); go_simp; refine hK _ ?_; clear hK K)
  refine Text.bdone ?_
  have p0 : w6.cell? ⟨0, 0, none⟩ = some (B 54) := HT6.out.pads.get (j := 0) rfl rfl
  go_wp2_with (first
   | (go_at_call 101; refine (comb_any 54 w.heap.size 168 (keyp k) w6 HK6.out HKL.out).mono ?_; rintro e w7 ⟨rfl, e1⟩; have HE1 := Lib.hid e1; clear e1 p0)
   | ((with_reducible show OpW 6); refine wpList_alloc _ rfl 168 rfl _ zero_arr ?_; intro w8 b1 b2 b3; have HB8 := Lib.hid b2; have HBz := Lib.hid b3)
   | ((with_reducible show OpN); refine wpList_storev _ rfl 168 (.tmp 6) (.tmp 30) rfl 64 (by kernel_rfl) w7.heap.size 0 _ _ ((xr 54 (keyp k)).map B) rfl rfl b1 HIL.out (oneB _) (by decide) ?_; intro w9 c1 c2 c3; rw [splice_all _ _ HIE.out] at c1; have HC9 := Lib.hid c1; have HK9 := Lib.hid c2; have HZ9 := Lib.hid c3; clear b1 b2 b3 c1 c2 c3))
  have HF9 : Hid (BL w9 gm 180 (stv (hs []) bf 0 [] ++ (xr 92 (keyp k)).map B)) := Lib.hid (((HF1.out.kept HE1.out).kept HB8.out).kp HK9.out (by have := HF1.out.lt; have := HE1.out.size; show ¬ gm = _; omega))
  have HT9 : Hid (Tabs w9) := Lib.hid (((HT6.out.kept HE1.out).kept HB8.out).kp HK9.out (by rintro k rfl; have := HT6.out.size; have := HE1.out.size; omega))
  have HW9 : Hid (Below w.heap.size w w9) := Lib.hid (((Kp.of_below (S := fun _ => False) (below_then (below_then HW6.out (HE1.out.mono (Nat.le_refl _))) HB8.out)).after HK9.out (fun i hi e => by have := HW6.out.size; have := HE1.out.size; omega)).below (Nat.le_refl _) (fun _ h => h.elim))
  have HNE : Hid (gm ≠ w7.heap.size) := Lib.hid (by have := HF1.out.lt; have := HE1.out.size; omega)
  obtain ⟨gi, hgi⟩ : ∃ g, g = w7.heap.size := ⟨_, rfl⟩
  rw [← hgi] at HC9 HNE ⊢
  clear hgi HF1 HT6 HK6 HW6 HE1 HB8 HBz HK9 HZ9
  have HHs : Hid (Hs w9.drew gm 180 ((xr 92 (keyp k)).map B) []) := Lib.hid ⟨bf, HBF.out, by rw [stv_first]; exact HF9.out.drew, rfl⟩
  have HBSi : Hid (BS w9.drew (some ⟨gi, 0, none⟩) 64 64 (xr 54 (keyp k))) := Lib.hid (BL.bs HC9.out.drew (by rw [xr_length]; exact HKL.out) (by decide))
  have HFAR : Hid (FarB (some ⟨gi, 0, none⟩) 64 (· = gm)) := Lib.hid (fun g o _ e e2 => by cases e; exact HNE.out e2.symm)
  have HGT : Hid (2 < gm) := Lib.hid (by have := HT.out.size; have := HGM.out; omega)
  refine Text.wp_region_text (fun _ => True) [(0, 4), (1, 4), (2, 4), (3, 4), (4, 4), (5, 2)] (by kernel_rfl) (by kernel_rfl) (fun _ _ _ _ _ h => h) (trivial) ?_
  iterate 5 (refine Text.purek rfl rfl (fun K hK => ⟨_, fun w' => by go_simp <;> rfl, ?_⟩); go_simp; refine hK _ ?_; clear hK K)
  refine Text.eff rfl rfl (fun K hK => ?_)
  go_simp
  refine (write_any gm 64 64 (some ⟨gi, 0, none⟩) 180 [] (xr 54 (keyp k)) _ w9.drew HHs.out HBSi.out HT9.out.drew HGT.out HFAR.out (by decide)).mono ?_
  rintro e w10 ⟨rfl, r1, r2⟩
  have HM10 : Hid (Mc w10 gm k []) := Lib.hid (by unfold Mc; rw [List.append_nil]; exact r1)
  have HW10 : Hid (Below w.heap.size w w10) := Lib.hid (((Kp.of_below (S := fun _ => False) HW9.out.drew).after r2 (fun i hi e => by have := HGM.out; omega)).below (Nat.le_refl _) (fun _ h => h.elim))
  refine hK _ _ trivial ?_
  clear hK K r1 r2
  refine Text.done ?_
  go_wp2_with fail
  go_ret
  exact ⟨gm, rfl, HGM.out, HM10.out, HW10.out⟩
 ·
  refine Text.beff rfl rfl (fun K hK => ?_)
  go_simp
  refine (comb_any 92 w.heap.size 168 (keyp k) w4 HK4.out HKL.out).mono ?_
  rintro e w5 ⟨rfl, e1⟩
  have HT5 := Lib.hid (HT4.out.kept e1)
  have HK5 := Lib.hid (HK4.out.kept e1)
  have HW5 := Lib.hid (below_then HW4.out (e1.mono (Nat.le_refl _)))
  have HA5 := Lib.hid (HA4.out.kept e1)
  refine hK _ _ HT5.out ?_
  clear hK K e1
  refine Text.beff rfl rfl (fun K hK => ?_)
  refine wp_loadv 173 (.tmp 18) rfl 73 (by kernel_rfl) wd.heap.size 0 (stv (hs []) bf 0 []) rfl HA5.out HSL.out ?_
  refine hK _ _ HT5.out ?_
  clear hK K
  refine Text.bpurek rfl rfl (fun K hK => ⟨_, fun w' => exec_build (t := 178) (ps := #[(0, .agg (stv (hs []) bf 0 []).toArray), (1, .agg ((xr 92 (keyp k)).map B).toArray)]) rfl (by rw [List.map_toArray]; rfl) (build_state _ _ HSL.out HOL.out w'), ?_⟩)
  refine hK _ ?_
  clear hK K
  refine Text.bpurek rfl rfl (fun K hK => ⟨_, fun w' => exec_build (t := 180) (ps := #[(0, .agg (stv (hs []) bf 0 [] ++ (xr 92 (keyp k)).map B).toArray)]) rfl (by rw [List.map_toArray]; rfl) (build_mac _ HAL.out w'), ?_⟩)
  refine hK _ ?_
  clear hK K
  refine Text.beff rfl rfl (fun K hK => ?_)
  refine wp_box 180 (.tmp 25) rfl (stv (hs []) bf 0 [] ++ (xr 92 (keyp k)).map B) rfl ?_
  intro w6 f1 f2 f3
  have HT6 := Lib.hid (HT5.out.kept f2)
  have HK6 := Lib.hid (HK5.out.kept f2)
  have HW6 := Lib.hid (below_then HW5.out f2)
  obtain ⟨gm, hgm⟩ : ∃ g, g = w5.heap.size := ⟨_, rfl⟩
  have HGM : Hid (w.heap.size ≤ gm) := Lib.hid (by rw [hgm]; exact HW5.out.size)
  rw [← hgm] at f1 ⊢
  have HF1 := Lib.hid f1
  refine hK _ _ HT6.out ?_
  clear hK K f1 f2 f3 hgm
  (refine Text.bpurek rfl rfl (fun K hK => ⟨_, fun w' => by go_simp <;> rfl, ?_⟩); go_simp; refine hK _ ?_; clear hK K)
  refine Text.bdone ?_
  have p0 : w6.cell? ⟨0, 0, none⟩ = some (B 54) := HT6.out.pads.get (j := 0) rfl rfl
  go_wp2_with (first
   | (go_at_call 101; refine (comb_any 54 w.heap.size 168 (keyp k) w6 HK6.out HKL.out).mono ?_; rintro e w7 ⟨rfl, e1⟩; have HE1 := Lib.hid e1; clear e1 p0)
   | ((with_reducible show OpW 6); refine wpList_alloc _ rfl 168 rfl _ zero_arr ?_; intro w8 b1 b2 b3; have HB8 := Lib.hid b2; have HBz := Lib.hid b3)
   | ((with_reducible show OpN); refine wpList_storev _ rfl 168 (.tmp 6) (.tmp 30) rfl 64 (by kernel_rfl) w7.heap.size 0 _ _ ((xr 54 (keyp k)).map B) rfl rfl b1 HIL.out (oneB _) (by decide) ?_; intro w9 c1 c2 c3; rw [splice_all _ _ HIE.out] at c1; have HC9 := Lib.hid c1; have HK9 := Lib.hid c2; have HZ9 := Lib.hid c3; clear b1 b2 b3 c1 c2 c3))
  have HF9 : Hid (BL w9 gm 180 (stv (hs []) bf 0 [] ++ (xr 92 (keyp k)).map B)) := Lib.hid (((HF1.out.kept HE1.out).kept HB8.out).kp HK9.out (by have := HF1.out.lt; have := HE1.out.size; show ¬ gm = _; omega))
  have HT9 : Hid (Tabs w9) := Lib.hid (((HT6.out.kept HE1.out).kept HB8.out).kp HK9.out (by rintro k rfl; have := HT6.out.size; have := HE1.out.size; omega))
  have HW9 : Hid (Below w.heap.size w w9) := Lib.hid (((Kp.of_below (S := fun _ => False) (below_then (below_then HW6.out (HE1.out.mono (Nat.le_refl _))) HB8.out)).after HK9.out (fun i hi e => by have := HW6.out.size; have := HE1.out.size; omega)).below (Nat.le_refl _) (fun _ h => h.elim))
  have HNE : Hid (gm ≠ w7.heap.size) := Lib.hid (by have := HF1.out.lt; have := HE1.out.size; omega)
  obtain ⟨gi, hgi⟩ : ∃ g, g = w7.heap.size := ⟨_, rfl⟩
  rw [← hgi] at HC9 HNE ⊢
  clear hgi HF1 HT6 HK6 HW6 HE1 HB8 HBz HK9 HZ9
  have HHs : Hid (Hs w9.drew gm 180 ((xr 92 (keyp k)).map B) []) := Lib.hid ⟨bf, HBF.out, by rw [stv_first]; exact HF9.out.drew, rfl⟩
  have HBSi : Hid (BS w9.drew (some ⟨gi, 0, none⟩) 64 64 (xr 54 (keyp k))) := Lib.hid (BL.bs HC9.out.drew (by rw [xr_length]; exact HKL.out) (by decide))
  have HFAR : Hid (FarB (some ⟨gi, 0, none⟩) 64 (· = gm)) := Lib.hid (fun g o _ e e2 => by cases e; exact HNE.out e2.symm)
  have HGT : Hid (2 < gm) := Lib.hid (by have := HT.out.size; have := HGM.out; omega)
  refine Text.wp_region_text (fun _ => True) [(0, 4), (1, 4), (2, 4), (3, 4), (4, 4), (5, 2)] (by kernel_rfl) (by kernel_rfl) (fun _ _ _ _ _ h => h) (trivial) ?_
  iterate 5 (refine Text.purek rfl rfl (fun K hK => ⟨_, fun w' => by go_simp <;> rfl, ?_⟩); go_simp; refine hK _ ?_; clear hK K)
  refine Text.eff rfl rfl (fun K hK => ?_)
  go_simp
  refine (write_any gm 64 64 (some ⟨gi, 0, none⟩) 180 [] (xr 54 (keyp k)) _ w9.drew HHs.out HBSi.out HT9.out.drew HGT.out HFAR.out (by decide)).mono ?_
  rintro e w10 ⟨rfl, r1, r2⟩
  have HM10 : Hid (Mc w10 gm k []) := Lib.hid (by unfold Mc; rw [List.append_nil]; exact r1)
  have HW10 : Hid (Below w.heap.size w w10) := Lib.hid (((Kp.of_below (S := fun _ => False) HW9.out.drew).after r2 (fun i hi e => by have := HGM.out; omega)).below (Nat.le_refl _) (fun _ h => h.elim))
  refine hK _ _ trivial ?_
  clear hK K r1 r2
  refine Text.done ?_
  go_wp2_with fail
  go_ret
  exact ⟨gm, rfl, HGM.out, HM10.out, HW10.out⟩
end Go.Proofs.YtheijpjfpaghfaaGreatDoor
/- Contracts of Mac.Write, Mac.Sum, hmac.Tag, hmac.Equal. -/
namespace Go.Proofs.YtheijpjfpaghfaaGreatDoor
open Go.RowKit Gf Sha

set_option maxHeartbeats 400000 in
theorem mwrite_any (g n c : Nat) (A : Option Addr) (k l x : List UInt8) (w : World) (hm : Mc w g k l) (h : BS w A n c x) (hT : Tabs w) (hg : 2 < g) (hA : FarB A n (· = g)) (hk : k.length ≤ 64) (hN : l.length + n ≤ 1125899906842624) :
  Calls Tryz.prog 84 #[.pointer (some ⟨g, 0, none⟩), .slice A n c] w fun e w' => e = .returned (.tuple #[]) ∧ Mc w' g k (l ++ x) ∧ Kp (· = g) w w' := by
 have HM := Lib.hid hm
 have H := Lib.hid h
 have HT := Lib.hid hT
 have HA := Lib.hid hA
 have HL : Hid ((xr 54 (keyp k) ++ l).length + n ≤ 1152921504606846976) := Lib.hid (by rw [List.length_append, xr_length, keyp_length k hk]; omega)
 clear hm h hT hA
 go_enter Tryz.func84, Tryz.ntmps84
 go_wp2_with (go_at_call 103; refine (write_any g n c A 180 (xr 54 (keyp k) ++ l) x _ w HM.out H.out HT.out hg HA.out HL.out).mono ?_; rintro e w3 ⟨rfl, r1, r2⟩)
 go_end0
 exact ⟨rfl, by unfold Mc; rw [← List.append_assoc]; exact r1, r2⟩

set_option maxRecDepth 100000 in
set_option maxHeartbeats 1000000 in
theorem msum_any (g : Nat) (k l : List UInt8) (w : World) (hm : Mc w g k l) (hT : Tabs w) (hk : k.length ≤ 64) (hN : l.length ≤ 562949953421312) :
  Calls Tryz.prog 85 #[.pointer (some ⟨g, 0, none⟩)] w fun e w' => e = .returned (.string (strB (tagL k l))) ∧ Below w.heap.size w w' := by
 have HT := Lib.hid hT
 have HM := Lib.hid hm
 have HK := Lib.hid hk
 have HN : Hid ((xr 54 (keyp k) ++ l).length ≤ 1125899906842624) := Lib.hid (by rw [List.length_append, xr_length, keyp_length k hk]; omega)
 obtain ⟨bf, s1, s2, s3⟩ := hm
 have HOB : Hid (∀ w', Below w.heap.size w w' → (convert 22 9 (.slice (some ⟨g, 73, none⟩) 64 64)).run Tryz.prog w' = .ok (.string (strB (xr 92 (keyp k)))) w') := Lib.hid (fun w' hb => conv_str ⟨by rw [xr_length]; exact keyp_length k hk, Nat.le_refl _, by decide, fun j hj => ⟨g, 73, rfl, by
  have h9 := s2.kept hb
  rw [stv_first] at h9
  refine h9.get ?_
  have e73 := stv_first_length (hs (xr 54 (keyp k) ++ l)) bf (xr 54 (keyp k) ++ l).length s1
  rw [List.getElem?_append_right (by omega), e73, show 73 + j - 73 = j by omega]
  exact map_get_B _ j (by rw [xr_length, keyp_length k hk]; exact hj)⟩⟩)
 clear hT s1 s2 s3
 have hcv := HOB.out w (Below.refl _ _)
 have hL1 : ∀ j, j < 2 → (gR [xr 92 (keyp k), sha (xr 54 (keyp k) ++ l)] j).length ≤ lim := by
  intro j hj
  match j, hj with
  | 0, _ => show (xr 92 (keyp k)).length ≤ lim; rw [xr_length, keyp_length k hk]; decide
  | 1, _ => show (sha _).length ≤ lim; rw [sha_length]; decide
 have HL1 := Lib.hid hL1
 have HFL : Hid (([xr 92 (keyp k), sha (xr 54 (keyp k) ++ l)] : List (List UInt8)).flatten.length ≤ 1125899906842624) := Lib.hid (by simp [xr_length, keyp_length k hk, sha_length])
 clear hL1 hk
 go_enter Tryz.func85, Tryz.ntmps85
 go_wp2_with fail
 refine Text.wp_region_text (fun w' => (convert 22 9 (.slice (some ⟨g, 73, none⟩) 64 64)).run Tryz.prog w' = .ok (.string (strB (xr 92 (keyp k)))) w') [(0, 4), (1, 4), (2, 4), (3, 4), (4, 4), (6, 4), (7, 4), (8, 4), (9, 4), (5, 0), (10, 2), (11, 2), (12, 2), (13, 4)] (by kernel_rfl) (by kernel_rfl) (fun _ _ _ _ _ h => h) (HOB.out _ (Below.refl _ _).drew) ?_
 iterate 9 (refine Text.purek rfl rfl (fun K hK => ⟨_, fun w' => by go_simp <;> rfl, ?_⟩); go_simp; refine hK _ ?_; clear hK K)
 (refine Text.heldk rfl rfl (fun K hK => ⟨_, fun w' hw' => by go_simp <;> rfl, ?_⟩); go_simp; refine hK _ ?_; clear hK K)
 refine Text.eff rfl rfl (fun K hK => ?_)
 go_simp
 refine (sum_any g 180 (xr 54 (keyp k) ++ l) _ w.drew HM.out.drew HT.out.drew HN.out).mono ?_
 rintro e w1 ⟨rfl, b1⟩
 have HB1 : Hid (Below w.heap.size w w1) := Lib.hid (below_then (Below.refl _ _).drew b1)
 refine hK _ _ (HOB.out _ HB1.out) ?_
 clear hK K b1 hcv
 refine Text.eff rfl rfl (fun K hK => ?_)
 go_simp
 have HT2 : Hid (TS (w1.alloc (.cells #[.string (strB (xr 92 (keyp k))), .string (strB (sha (xr 54 (keyp k) ++ l)))] 9)) (some ⟨w1.heap.size, 0, none⟩) 2 2 [xr 92 (keyp k), sha (xr 54 (keyp k) ++ l)]) := Lib.hid (TS.of_blk (BL.new w1 9 _) rfl (by decide))
 have HB2 : Hid (Below w.heap.size w (w1.alloc (.cells #[.string (strB (xr 92 (keyp k))), .string (strB (sha (xr 54 (keyp k) ++ l)))] 9))) := Lib.hid (HB1.out.alloc HB1.out.size _)
 refine hK _ _ (HOB.out _ HB2.out) ?_
 clear hK K
 refine Text.eff rfl rfl (fun K hK => ?_)
 go_simp
 refine (join_any _ 2 2 _ _ HT2.out (HT.out.kept HB2.out) HFL.out HL1.out).mono ?_
 rintro e w3 ⟨rfl, b3⟩
 have HB3 : Hid (Below w.heap.size w w3) := Lib.hid (below_thenB HB2.out HB2.out.size b3)
 refine hK _ _ (HOB.out _ HB3.out) ?_
 clear hK K b3
 (refine Text.purek rfl rfl (fun K hK => ⟨_, fun w' => by go_simp <;> rfl, ?_⟩); go_simp; refine hK _ ?_; clear hK K)
 refine Text.done ?_
 go_wp2_with fail
 go_ret
 refine ⟨?_, HB3.out⟩
 rw [tagL]; rfl

set_option maxHeartbeats 400000 in
theorem tag_any (A : Option Addr) (n c : Nat) (k l : List UInt8) (w : World) (h : BS w A n c l) (hT : Tabs w) (hk : k.length ≤ 64) :
  Calls Tryz.prog 57 #[.string (strB k), .slice A n c] w fun e w' => e = .returned (.string (strB (tagL k l))) ∧ Below w.heap.size w w' := by
 have hn := h.len_le
 have H := Lib.hid h
 have HT := Lib.hid hT
 have HS := Lib.hid hT.size
 have HN : Hid (([] : List UInt8).length + n ≤ 1125899906842624) := Lib.hid (by simp; omega)
 have HN2 : Hid (l.length ≤ 562949953421312) := Lib.hid (by rw [H.out.1]; omega)
 clear h hT
 go_enter Tryz.func57, Tryz.ntmps57
 go_wp2_with (first
  | (go_at_call 83; refine (hnew_any k w HT.out hk).mono ?_; rintro e w1 ⟨g, rfl, b0, b1, b2⟩; have HB0 := Lib.hid b0; have HB1 := Lib.hid b1; have HB2 := Lib.hid b2; clear b0 b1 b2)
  | (go_at_call 84; refine (mwrite_any g n c A k [] l w1 HB1.out (H.out.kept HB2.out) (HT.out.kept HB2.out) (Nat.lt_of_lt_of_le HS.out HB0.out) (H.out.far_new (fun k e => by have := HB0.out; omega)) hk HN.out).mono ?_; rintro e w3 ⟨rfl, r1, r2⟩; rw [List.nil_append] at r1; have HR1 := Lib.hid r1; have HR2 := Lib.hid r2; clear r1 r2)
  | (go_at_call 85; refine (msum_any g k l w3 HR1.out ((HT.out.kept HB2.out).kp HR2.out (by rintro k rfl; exact Nat.lt_of_lt_of_le HS.out HB0.out)) hk HN2.out).mono ?_; rintro e w4 ⟨rfl, r1⟩))
 go_ret
 have k1 : Below w.heap.size w w3 := ((Kp.of_below (S := fun _ => False) HB2.out).after HR2.out (fun i hi e => by have := HB0.out; omega)).below (Nat.le_refl _) (fun _ h => h.elim)
 exact ⟨rfl, below_thenB k1 k1.size r1⟩

theorem hequal_any (a b : List UInt8) (w : World) : Calls Tryz.prog 64 #[.string (strB a), .string (strB b)] w fun e w' => e = .returned (.bool (decide (a.length = 32) && decide (a = b))) ∧ w = w' := by
 by_cases h : a.length = 32
 ·
  have h1 : (((strB a).size : Int) == 32) = true := by rw [strB_size, h]; rfl
  rw [decide_eq_true h, Bool.true_and, ← strB_eq]
  clear h
  go_enter Tryz.func64, Tryz.ntmps64
  go_wp2
  go_ret
  exact ⟨rfl, rfl⟩
 ·
  have h1 : (((strB a).size : Int) == 32) = false := by rw [strB_size]; simp only [beq_eq_false_iff_ne, ne_eq]; omega
  rw [decide_eq_false h, Bool.false_and]
  clear h
  go_enter Tryz.func64, Tryz.ntmps64
  go_wp2
  go_ret
  exact ⟨rfl, rfl⟩
end Go.Proofs.YtheijpjfpaghfaaGreatDoor
/- append onto a byte slice that is full: the result is a row of the call's own. []byte("..") of a constant. Strings as sources. -/
namespace Go.Proofs.YtheijpjfpaghfaaGreatDoor
open Go Go.RowKit Gf

/-- A new row of bytes; nothing old has turned. -/
structure NewRow (w : World) (v : Value) (n : Nat) (l : List UInt8) (w' : World) : Prop where
 own : w'.ownsRow w.heap.size 5 1 v n (l.map B)
 below : Below w.heap.size w w'

theorem BS.firstCells {P : Program} {w : World} {A : Option Addr} {n c : Nat} {l : List UInt8} (h : BS w A n c l) : (Builtin.firstCells 1 n (.slice A n c)).run P w = .ok (l.map B).toArray w := by
 cases A with
 | none =>
  have h0 : n = 0 := by
   rcases Nat.eq_zero_or_pos n with h0 | h0
   ·
    exact h0
   ·
    obtain ⟨g, o, e, _⟩ := h.2.2.2 0 h0
    cases e
  have hl : l = [] := List.eq_nil_of_length_eq_zero (by rw [h.1, h0])
  subst hl
  simp [Builtin.firstCells]
 | some a =>
  have hl := run_loadCells_list (P := P) w a (l.map B) (fun j v hv => by
   obtain ⟨hj, hv2⟩ := List.getElem?_eq_some_iff.1 hv
   rw [List.length_map] at hj
   obtain ⟨g', o', e, hc⟩ := h.2.2.2 j (by rw [← h.1]; exact hj)
   obtain rfl := Option.some.inj e
   rw [addr_add, hc]
   show some (B (gB l j)) = _
   rw [gB_eq hj, ← hv2]
   simp)
  rw [List.length_map, h.1] at hl
  simp [Builtin.firstCells, hl]

theorem run_grow {w : World} {A : Option Addr} {n c : Nat} {l l' : List UInt8} (h : BS w A n c l) (tx rt : TypeId) (x : Value) (m : Nat) (hs : Src Tryz.prog 1 tx x m (l'.map B) w) (hg : c < n + m) (hb : n + m ≤ 140737488355328) :
  ∃ v' w', (Builtin.append_ #[22, tx] rt #[.slice A n c, x]).run Tryz.prog w = .ok v' w' ∧ NewRow w v' (n + m) (l ++ l') w' := by
 obtain ⟨i, hi, hz, hsz, hby⟩ := info_some infoU8
 have hf : (Builtin.firstCells i.size n (.slice A n c)).run Tryz.prog w.drew = .ok (l.map B).toArray w.drew := by rw [hsz]; exact BS.firstCells (h.drew)
 have hs' : Src Tryz.prog i.size tx x m (l'.map B) w := by rw [hsz]; exact hs
 have hr := run_append_grow_src (P := Tryz.prog) w 22 tx rt 5 i _ Tryz.underlying22 hi hz A n c (l.map B) hf x m (l'.map B) hs' hg (by omega) (by rw [hby]; exact growslice_fits hg (by omega))
 have hl' : l'.length = m := by have := hs.newsLen; simpa using this
 have hge := grownCap_ge w (n + m) c 5
 have hcm : grownCap w (n + m) c 5 ≤ maxLen := grownCap_le_maxLen w (n + m) c 5 (by simp only [maxLen]; omega)
 refine ⟨_, _, hr, ⟨⟨by simp [h.1, hl'], .inr ⟨w.heap.size, _, _, rfl, Nat.le_refl _, heap_alloc_new w.drew _, hge, hcm, ?_, ?_⟩⟩, ((Below.refl _ _).drew).alloc (Nat.le_refl _) _⟩⟩
 ·
  simp [size_zeroCells, h.1, hl', Value.cells]; omega
 ·
  have e : (n + m) * 1 = (l.map B ++ l'.map B).length := by simp [h.1, hl']
  rw [List.map_append, Array.toList_append, e]
  exact List.take_left

section
variable (w : World) {ops : Array Oper} {rest : List Oper} {o : Oper} {a : Act} {Q : Exit → Act → World → Prop}
theorem wpList_growS (hg : o.guard = none) (s x : Operand) (hop : o.op = .call { callee := .builtin .append, args := #[s, x], argTypes := #[22, 9] })
  (A : Option Addr) (n c : Nat) (l l' : List UInt8) (hs : a.eval s = .slice A n c) (h : BS w A n c l) (hx : a.eval x = .string (strB l')) (hc : c < n + l'.length) (hb : n + l'.length ≤ 140737488355328)
  (hK : ∀ v' w', NewRow w v' (n + l'.length) (l ++ l') w' → wpList Tryz.prog ops Q rest (a.put o.dst v') w') : wpList Tryz.prog ops Q (o :: rest) a w :=
 wpList_plain hg fun K hK' => by
  have hsrc : Src Tryz.prog 1 9 (.string (strB l')) l'.length (l'.map B) w := Src.ofString w Tryz.underlying9 (strB l')
  obtain ⟨v', w', hr, h2⟩ := run_grow h 9 o.type (.string (strB l')) l'.length hsrc hc hb
  unfold Oper.wp execOp
  simp only [hop, resolve, invoke, builtin, Sem.run_bind, Sem.run_pure, Result.andThen_ok, List.map_toArray, List.map_cons, List.map_nil, hs, hx, hr]
  exact hK' _ _ (hK v' w' h2)
/-- []byte("..") of a constant: the mark behind the last byte. -/
theorem wpList_same (hg : o.guard = none) (x : Operand) (hop : o.op = .convert 22 22 x) (g n c : Nat) (l : List UInt8) (hx : a.eval x = .slice (some ⟨g, 0, none⟩) n c) (h : BL w g 5 (l.map B)) (hn : l.length = n) (hl : n ≤ lim) (hc : c = n)
  (hK : ∀ w', BS w' (some ⟨g, 0, none⟩) n c l → Kp (· = g) w w' → w'.heap.size = w.heap.size → wpList Tryz.prog ops Q rest (a.put o.dst (.slice (some ⟨g, 0, none⟩) n c)) w') : wpList Tryz.prog ops Q (o :: rest) a w :=
 wpList_plain hg fun K hK' => by
  subst hc
  have hsh : w.shape? g = some (5, (l.map B).toArray.size) := by
   unfold World.shape?
   have h9 : w.heap[g]? = some (.cells (l.map B).toArray 5 (0, 0)) := h
   rw [h9]
  have hr : (convert 22 22 (.slice (some ⟨g, 0, none⟩) c c)).run Tryz.prog w = .ok (.slice (some ⟨g, 0, none⟩) c c) (w.freeze ⟨g, (l.map B).toArray.size, none⟩ 1) := by
   simp [convert, run_underlying Tryz.underlying22, run_underlying Tryz.underlying5, markStringish, hsh]
  have hfr : (w.freeze ⟨g, (l.map B).toArray.size, none⟩ 1).heap[g]? = some (.cells (l.map B).toArray 5 ((l.map B).toArray.size, (l.map B).toArray.size + 1)) := by
   have h9 : w.heap[g]? = some (.cells (l.map B).toArray 5 (0, 0)) := h
   unfold World.freeze
   rw [if_neg (by decide)]
   simp [Array.getElem?_modify, h9]
  have hkp : Kp (· = g) w (w.freeze ⟨g, (l.map B).toArray.size, none⟩ 1) := by
   unfold World.freeze
   rw [if_neg (by decide)]
   exact ⟨rfl, rfl, rfl, by simp, fun k _ hk => by simp [Array.getElem?_modify, show ¬ g = k from fun e => hk e.symm]⟩
  unfold Oper.wp execOp
  simp only [hop, hx, Sem.run_bind, hr, Result.andThen_ok]
  refine hK' _ _ (hK _ ⟨hn, Nat.le_refl _, hl, fun k hk => ⟨g, 0, rfl, ?_⟩⟩ hkp (by unfold World.freeze; rw [if_neg (by decide)]; simp))
  rw [Nat.zero_add, cell_of_row _ g k _ _ _ hfr]
  have hkl : k < l.length := by omega
  show (l.map B).toArray[k]? = some (B (gB l k))
  rw [gB_eq hkl]
  simp [hkl]
end

/-- The groups of a number (f: more than there are). -/
def uvf : Nat → Nat → List UInt8
 | 0, n => [UInt8.ofNat n]
 | f + 1, n => if n < 128 then [UInt8.ofNat n] else (UInt8.ofNat n ||| 128) :: uvf f (n >>> 7)
def uv (n : Nat) : List UInt8 := uvf 10 n
end Go.Proofs.YtheijpjfpaghfaaGreatDoor
