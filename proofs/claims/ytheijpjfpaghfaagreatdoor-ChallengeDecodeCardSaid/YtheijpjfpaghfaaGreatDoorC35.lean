/- Several texts in one: Hj. -/
import Derived.Test.YtheijpjfpaghfaaGreatDoorC34
import Derived.Test.YtheijpjfpaghfaaGreatDoorC8
import Derived.Deep.DeepCutAuto
/- ref01.Reader: Read, End. -/
namespace Go.Proofs.YtheijpjfpaghfaaGreatDoor
open Go Go.RowKit Gf Sha

/-- The reference's reader: its bytes, where it stands, its error. -/
def RfS (w : World) (g : Nat) (A : Option Addr) (n c : Nat) (b : List UInt8) (s : Rd) : Prop := (∃ l : Int, BL w g 97 [.slice A n c, .int .i64 (s.off : Int), .int .i64 l, .int .i64 s.err]) ∧ BS w A n c b ∧ FarB A n (· = g) ∧ s.off ≤ n
theorem RfS.kept {w w' : World} {g n c : Nat} {A : Option Addr} {b : List UInt8} {s : Rd} (h : RfS w g A n c b s) (hb : Below w.heap.size w w') : RfS w' g A n c b s := ⟨let ⟨_, hl⟩ := h.1; ⟨_, hl.kept hb⟩, h.2.1.kept hb, h.2.2⟩
theorem splice_whole {vs : List Value} (h : vs.length = 6) : splice (vaC 0 0 [] 0) 0 vs = vs := by
  unfold splice
  rw [h]
  simp [vaC]
theorem sD_len {r : List UInt8} {x : List UInt8 × Nat} (h : sD r = .ok x) : x.2 ≤ r.length := by
  unfold sD at h
  split at h
  · injection h with h; subst h; assumption
  · cases h
theorem num_len {r : List UInt8} {v k : Nat} (h : num r = some (v, k)) : k ≤ r.length := by
  have hv : v < 18446744073709551616 := num_bound 10 0 0 r v k rfl (by decide) h
  have h1 := num_enc h hv
  have e : r = uv v ++ r.drop k := by rw [← h1, List.take_append_drop]
  have h2 := num_of v (r.drop k) hv
  rw [← e, h] at h2
  have h3 : k = (uv v).length := (Prod.mk.inj (Option.some.inj h2)).2
  have h4 := congrArg List.length h1
  rw [List.length_take] at h4
  omega
theorem uD_len {r : List UInt8} {x : Nat × Nat} (h : uD r = .ok x) : x.2 ≤ r.length := by
  unfold uD at h
  cases hn : num r with
  | none => rw [hn] at h; cases h
  | some y => rw [hn] at h; injection h with h; subst h; exact num_len hn
theorem cD_len {m : Nat} {r : List UInt8} {x : Nat × Nat} (h : cD m r = .ok x) : x.2 ≤ r.length := by
  unfold cD at h
  cases hn : num r with
  | none => rw [hn] at h; cases h
  | some y =>
    rw [hn] at h
    have h' : (if y.1 ≤ m then (Except.ok y : Except Int (Nat × Nat)) else .error 2) = .ok x := h
    by_cases hy : y.1 ≤ m
    · rw [if_pos hy] at h'; injection h' with h'; subst h'; exact num_len hn
    · rw [if_neg hy] at h'; cases h'
def vaS (s : List UInt8) : List Value := vaC 6 0 s 0
def vaI (v : Nat) : List Value := vaC 2 (unz v) [] 0
def vaN (m v : Nat) : List Value := vaC 7 (v : Int) [] (m : Int)
theorem vaS0 : vaS [] = vaC 6 0 [] 0 := rfl
theorem vaI0 : vaI 0 = vaC 2 0 [] 0 := by
  unfold vaI
  rw [show unz 0 = 0 by simp [unz]]
theorem vaN0 (m : Nat) : vaN m 0 = vaC 7 0 [] (m : Int) := rfl
set_option maxRecDepth 100000 in
set_option maxHeartbeats 4000000 in
theorem rsum_rd  (w : World) (g n c : Nat) (A : Option Addr) (b : List UInt8) (s : Rd) (h : RfS w g A n c b s) :
    Calls Tryz.prog 41 #[.pointer (some ⟨g, 0, none⟩), .int .i64 6, .int .i64 0] w fun e w' => e = .returned (.agg (vaS (rdV [] sD b s).1).toArray) ∧ RfS w' g A n c b (rdV [] sD b s).2 ∧ Kp (· = g) w w' := by
  obtain ⟨off, last, err⟩ := s
  obtain ⟨⟨l, hg⟩, hbs, hfar, ho⟩ := h
  have HG := Lib.hid hg
  have HBS := Lib.hid hbs
  have HF := Lib.hid hfar
  have HGL := Lib.hid hg.lt
  have ho' : off ≤ n := ho
  clear hg hbs hfar ho
  by_cases h0 : err = 0
  · subst h0
    obtain ⟨X, hX⟩ : ∃ X, X = sD (b.drop off) := ⟨_, rfl⟩
    have HX := Lib.hid hX
    obtain ⟨V, hV⟩ : ∃ V, V = (vaS (vO [] X)) := ⟨_, rfl⟩
    have HVL : Hid (V.length = 6 ∧ ∀ v ∈ V, v.oneCell' = true) := Lib.hid (by rw [hV]; exact ⟨rfl, one_val _ rfl⟩)
    obtain ⟨nx, hnx⟩ : ∃ nx, nx = nxO off X := ⟨_, rfl⟩
    obtain ⟨er, her⟩ : ∃ er, er = eO X := ⟨_, rfl⟩
    have HRD : Hid (∀ w9 : World, BS w9 A n c b → Calls Tryz.prog 75 #[.slice A n c, .int .i64 (off : Int), .int .i64 6, .int .i64 0] w9 fun e w' => e = .returned (.tuple #[.agg V.toArray, .int .i64 (nx : Int), .int .i64 er]) ∧ Below w9.heap.size w9 w') := Lib.hid (fun w9 h9 => by
      have h8 := rread_sum A n c b off w9 h9 ho'
      rw [← hX, ← hnx, ← her] at h8
      rw [hV]
      exact h8)
    have HVV := Lib.hid hV
    have HNX := Lib.hid hnx
    have HER := Lib.hid her
    clear hX hV hnx her
    go_enter Tryz.func41, Tryz.ntmps41
    go_wp2_with (first
      | ((with_reducible show wpList _ _ _ (⟨some 6, _, _, _, _, _⟩ :: _) _ _); refine wpList_alloc _ rfl 100 rfl (vaC 0 0 [] 0) vaZero ?_; intro w1 a1 a2 a3; have HR1 := Lib.hid a1; have HB1 := Lib.hid a2; clear a1 a2 a3)
      | ((with_reducible show wpList _ _ _ (⟨some 13, _, _, _, _, _⟩ :: _) _ _); refine wpList_build _ rfl 100 _ rfl #[(0, .int .i64 6), (5, .int .i64 0)] (by rw [List.map_toArray]; rfl) (.agg (vaC 6 0 [] 0).toArray) (by exact bldVa _ _ _) ?_)
      | ((with_reducible show wpList _ _ _ (⟨some 7, _, _, _, _, _⟩ :: _) _ _); refine wpList_alloc _ rfl 100 rfl (vaC 0 0 [] 0) vaZero ?_; intro w2 a1 a2 a3; have HV2 := Lib.hid a1; have HR2 := Lib.hid (HR1.out.kept a2); have HB2 := Lib.hid (below_then HB1.out a2); clear a1 a2 a3)
      | ((with_reducible show wpList _ _ _ (⟨none, _, _, _, _, _⟩ :: _) _ _); refine wpList_storev _ rfl 100 (.tmp 7) (.tmp 13) rfl 6 (by kernel_rfl) w1.heap.size 0 _ (vaC 0 0 [] 0) (vaC 6 0 [] 0) rfl rfl HV2.out rfl (one_val _ rfl) (by decide) ?_; intro w3 a1 a2 a3; have HV3 : Hid (BL w3 w1.heap.size 100 (vaC 6 0 [] 0)) := Lib.hid a1; have HR3 := Lib.hid (a2.bl HR2.out (by have := HR1.out.lt; omega)); have HB3 : Hid (Below w.heap.size w w3) := Lib.hid (low_own HB2.out a2 (fun i hi e => by have := HB1.out.size; omega)); have q3 := (HG.out.kept HB3.out).get (j := 3) rfl; clear a1 a2 a3)
      | fail)
    go_simp
    obtain ⟨wy, hwy⟩ : ∃ wy, wy = w3 := ⟨_, rfl⟩
    have HXY : Hid (wy = w3) := Lib.hid hwy
    rw [← hwy]
    clear hwy
    have HGy : Hid (BL wy g 97 [.slice A n c, .int .i64 (off : Int), .int .i64 l, .int .i64 0]) := Lib.hid (by rw [HXY.out]; exact HG.out.kept HB3.out)
    have HBSy : Hid (BS wy A n c b) := Lib.hid (by rw [HXY.out]; exact HBS.out.kept HB3.out)
    have HVy : Hid (BL wy w1.heap.size 100 (vaC 6 0 [] 0)) := Lib.hid (by rw [HXY.out]; exact HV3.out)
    have HRy : Hid (BL wy w.heap.size 100 (vaC 0 0 [] 0)) := Lib.hid (by rw [HXY.out]; exact HR3.out)
    have HBy : Hid (Below w.heap.size w wy) := Lib.hid (by rw [HXY.out]; exact HB3.out)
    have HSZ : Hid (g < w.heap.size ∧ w.heap.size < w1.heap.size ∧ w1.heap.size < wy.heap.size) := Lib.hid ⟨HGL.out, HR1.out.lt, HVy.out.lt⟩
    clear HXY HB3 HV3 HR3 HR1 HB1 HV2 HR2 HB2 q3
    go_cut [8, 9, 10] (fun s8 s9 s10 wx => ∃ gy : Nat, s8 = .pointer (some ⟨gy, 0, none⟩) ∧ s9 = .int .i64 (nx : Int) ∧ s10 = .int .i64 er ∧ Hid (BL wx gy 100 V) ∧ Hid (Below wy.heap.size wy wx) ∧ Hid (wy.heap.size ≤ gy))
    case first =>
      refine Text.wp_region_bt (fun w' => w'.cell? ⟨g, 0, none⟩ = some (.slice A n c) ∧ w'.cell? ⟨g, 1, none⟩ = some (.int .i64 (off : Int))) (.still 0 4 (.still 1 4 (.still 2 4 (.still 4 4 (.still 5 4 (.still 6 4 (.still 8 4 (.still 9 4 (.still 3 0 (.still 7 0 (.br 10 (.still 11 4 (.still 12 4 (.still 13 4 (.still 14 4 (.eff 15 (.eff 16 (.still 17 4 (.still 18 4 .leaf)))))))) 15 (.eff 10 (.still 11 4 (.still 12 4 (.still 13 4 (.still 14 4 (.eff 16 (.still 17 4 (.still 18 4 .leaf))))))))))))))))))) (by kernel_rfl) (by kernel_rfl) (fun _ _ _ _ _ h => h) (⟨HGy.out.get (j := 0) rfl, HGy.out.get (j := 1) rfl⟩) ?_
      iterate 8 (refine Text.bpurek rfl rfl (fun K hK => ⟨_, fun w' => by go_simp <;> rfl, ?_⟩); go_simp; refine hK _ ?_; clear hK K)
      iterate 2 (refine Text.bheldk rfl rfl (fun K hK => ⟨_, fun w' hw' => by go_simp <;> rfl, ?_⟩); go_simp; refine hK _ ?_; clear hK K)
      refine Text.bfork ?_ ?_
      · refine Text.beff rfl rfl (fun K hK => ?_)
        go_simp
        refine (HRD.out wy.drew HBSy.out.drew).mono ?_
        rintro e y1 ⟨rfl, b1⟩
        have HX1 : Hid (Below wy.heap.size wy y1) := Lib.hid ((Below.refl _ _).drew.trans (b1.mono (Nat.le_refl _)))
        refine hK _ _ ⟨(HGy.out.kept HX1.out).get (j := 0) rfl, (HGy.out.kept HX1.out).get (j := 1) rfl⟩ ?_
        clear hK K b1
        iterate 4 (refine Text.bpurek rfl rfl (fun K hK => ⟨_, fun w' => by go_simp <;> rfl, ?_⟩); go_simp; refine hK _ ?_; clear hK K)
        refine Text.beff rfl rfl (fun K hK => ?_)
        refine wp_alloc 100 rfl (vaC 0 0 [] 0) vaZero ?_
        intro y2 a1 a2 a3
        have HN2 := Lib.hid a1
        have HX2 : Hid (Below wy.heap.size wy y2) := Lib.hid (below_then HX1.out a2)
        refine hK _ _ ⟨(HGy.out.kept HX2.out).get (j := 0) rfl, (HGy.out.kept HX2.out).get (j := 1) rfl⟩ ?_
        clear hK K a1 a2 a3
        refine Text.beff rfl rfl (fun K hK => ?_)
        refine wp_storev 100 (.tmp 8) (.tmp 45) rfl 6 (by kernel_rfl) y1.heap.size 0 _ (vaC 0 0 [] 0) V rfl rfl HN2.out HVL.out.1 HVL.out.2 (by decide) ?_
        intro y3 a1 a2 a3
        have HN3 : Hid (BL y3 y1.heap.size 100 V) := Lib.hid (by have h9 := a1; rw [splice_whole HVL.out.1] at h9; exact h9)
        have HX3 : Hid (Below wy.heap.size wy y3) := Lib.hid (low_own HX2.out a2 (fun i hi e => by have := HX1.out.size; omega))
        refine hK _ _ ⟨(HGy.out.kept HX3.out).get (j := 0) rfl, (HGy.out.kept HX3.out).get (j := 1) rfl⟩ ?_
        clear hK K a1 a2 a3
        iterate 2 (refine Text.bpurek rfl rfl (fun K hK => ⟨_, fun w' => by go_simp <;> rfl, ?_⟩); go_simp; refine hK _ ?_; clear hK K)
        refine Text.bdone ?_
        go_wp2_with fail
        go_meet
        exact ⟨_, rfl, rfl, rfl, HN3, HX3, Lib.hid HX1.out.size⟩
      · refine Text.beff rfl rfl (fun K hK => ?_)
        refine wp_alloc 100 rfl (vaC 0 0 [] 0) vaZero ?_
        intro y2 a1 a2 a3
        have HN2 := Lib.hid a1
        have HX2 : Hid (Below wy.heap.size wy y2) := Lib.hid (below_then (Below.refl _ _).drew a2)
        refine hK _ _ ⟨(HGy.out.kept HX2.out).get (j := 0) rfl, (HGy.out.kept HX2.out).get (j := 1) rfl⟩ ?_
        clear hK K a1 a2 a3
        refine Text.beff rfl rfl (fun K hK => ?_)
        go_simp
        refine (HRD.out y2 (HBSy.out.kept HX2.out)).mono ?_
        rintro e y1 ⟨rfl, b1⟩
        have HX1 : Hid (Below wy.heap.size wy y1) := Lib.hid (below_then HX2.out b1)
        have HN1 := Lib.hid (HN2.out.kept b1)
        refine hK _ _ ⟨(HGy.out.kept HX1.out).get (j := 0) rfl, (HGy.out.kept HX1.out).get (j := 1) rfl⟩ ?_
        clear hK K b1
        iterate 4 (refine Text.bpurek rfl rfl (fun K hK => ⟨_, fun w' => by go_simp <;> rfl, ?_⟩); go_simp; refine hK _ ?_; clear hK K)
        refine Text.beff rfl rfl (fun K hK => ?_)
        refine wp_storev 100 (.tmp 8) (.tmp 45) rfl 6 (by kernel_rfl) _ 0 _ (vaC 0 0 [] 0) V rfl rfl HN1.out HVL.out.1 HVL.out.2 (by decide) ?_
        intro y3 a1 a2 a3
        have HN3 : Hid (BL y3 wy.drew.heap.size 100 V) := Lib.hid (by have h9 := a1; rw [splice_whole HVL.out.1] at h9; exact h9)
        have HX3 : Hid (Below wy.heap.size wy y3) := Lib.hid (low_own HX1.out a2 (fun i hi e => by have h8 : i = wy.heap.size := e; omega))
        refine hK _ _ ⟨(HGy.out.kept HX3.out).get (j := 0) rfl, (HGy.out.kept HX3.out).get (j := 1) rfl⟩ ?_
        clear hK K a1 a2 a3
        iterate 2 (refine Text.bpurek rfl rfl (fun K hK => ⟨_, fun w' => by go_simp <;> rfl, ?_⟩); go_simp; refine hK _ ?_; clear hK K)
        refine Text.bdone ?_
        go_wp2_with fail
        go_meet
        exact ⟨_, rfl, rfl, rfl, HN3, HX3, Lib.hid (Nat.le_refl _)⟩
    case rest =>
      obtain ⟨gy, rfl, rfl, rfl, hv, hb, hgy⟩ := hcut
      obtain ⟨wz, hwz⟩ : ∃ wz, wz = wc := ⟨_, rfl⟩
      rw [← hwz] at hv hb ⊢
      clear hwz
      have HGz := Lib.hid (HGy.out.kept hb.out)
      have HVz := Lib.hid (HVy.out.kept hb.out)
      have HRz := Lib.hid (HRy.out.kept hb.out)
      have HBz := Lib.hid (below_thenB HBy.out HBy.out.size hb.out)
      have q1 := HGz.out.get (j := 1) rfl
      have HV1' : Hid (∀ v ∈ V, v.oneCell' = true) := Lib.hid HVL.out.2
      cases X with
      | ok x =>
        have hz0 : er = 0 := HER.out
        subst hz0
        have hxl := sD_len HX.out.symm
        rw [List.length_drop, HBS.out.1] at hxl
        have HNXX : Hid (nx = off + x.2) := Lib.hid HNX.out
        have HNN : Hid (off + x.2 ≤ n) := Lib.hid (by omega)
        clear hxl
        go_wp2_with (first
          | ((with_reducible show wpList _ _ _ (⟨none, _, _, _, _, _⟩ :: _) _ _); refine wpList_store1 _ rfl 3 (.tmp 63) (.tmp 60) rfl (sz1 _ (by kernel_rfl) _) g 2 _ _ (.int .i64 (off : Int)) rfl rfl HGz.out rfl rfl (by simp) ?_; intro y4 a1 a2 a3; have HG4 : Hid (BL y4 g 97 [.slice A n c, .int .i64 (off : Int), .int .i64 (off : Int), .int .i64 0]) := Lib.hid a1; have HN4 := Lib.hid (a2.bl hv.out (by have := HSZ.out; have := hgy.out; omega)); have HR4 := Lib.hid (a2.bl HRz.out (by have := HSZ.out; omega)); have HK4 : Hid (Kp (· = g) w y4) := Lib.hid ((Kp.of_below HBz.out).trans a2); clear a1 a2 a3)
          | ((with_reducible show wpList _ _ _ (⟨none, _, _, _, _, _⟩ :: _) _ _); refine wpList_store1 _ rfl 3 (.tmp 65) (.tmp 61) rfl (sz1 _ (by kernel_rfl) _) g 1 _ _ (.int .i64 (nx : Int)) rfl rfl HG4.out rfl rfl (by simp) ?_; intro y5 a1 a2 a3; have HG5 : Hid (BL y5 g 97 [.slice A n c, .int .i64 (nx : Int), .int .i64 (off : Int), .int .i64 0]) := Lib.hid a1; have HN5 := Lib.hid (a2.bl HN4.out (by have := HSZ.out; have := hgy.out; omega)); have HR5 := Lib.hid (a2.bl HR4.out (by have := HSZ.out; omega)); have HK5 : Hid (Kp (· = g) w y5) := Lib.hid (HK4.out.trans a2); clear a1 a2 a3)
          | ((with_reducible show wpList _ _ _ (⟨some 66, _, _, _, _, _⟩ :: _) _ _); refine wpList_loadv _ rfl 100 (.tmp 8) rfl 6 (by kernel_rfl) gy 0 V rfl (BL.all HN5.out) HVL.out.1 ?_)
          | ((with_reducible show wpList _ _ _ (⟨none, _, _, _, _, _⟩ :: _) _ _); refine wpList_storev _ rfl 100 (.tmp 6) (.tmp 66) rfl 6 (by kernel_rfl) w.heap.size 0 _ (vaC 0 0 [] 0) V rfl rfl HR5.out HVL.out.1 HV1'.out (by decide) ?_; intro w9 a1 a2 a3; have HR9 : Hid (BL w9 w.heap.size 100 V) := Lib.hid (by have h9 := a1; rw [splice_whole HVL.out.1] at h9; exact h9); have HK9 := Lib.hid a2; clear a1 a2 a3))
        refine bodyPost_ret (results_at w9 Tryz.results41 (n := 6) (by kernel_rfl) (g := w.heap.size) (o := 0) rfl (ms := V) (BL.all HR9.out) HVL.out.1) rfl ?_
        rw [rdV_ok HX.out.symm]
        have hk : Kp (· = g) w w9 := HK5.out.after HK9.out (fun i hi e => by omega)
        refine ⟨by rw [HVV.out]; rfl, ⟨⟨(off : Int), ?_⟩, HBS.out.kpf hk HF.out, HF.out, HNN.out⟩, hk⟩
        have h9 := HK9.out.bl HG5.out (by have := HSZ.out; omega)
        rw [HNXX.out] at h9
        exact h9
      | error e =>
        have hne : er ≠ 0 := by have h9 := sD_err HX.out.symm; have h8 : er = e := HER.out; rw [h8]; exact h9
        have HEE : Hid (er = e) := Lib.hid HER.out
        have f0 : (er != 0) = true := by rw [bne_iff_ne]; exact hne
        clear hne
        go_wp2_with (first
          | ((with_reducible show wpList _ _ _ (⟨none, _, _, _, _, _⟩ :: _) _ _); refine wpList_store1 _ rfl 25 (.tmp 53) (.tmp 51) rfl (sz1 _ (by kernel_rfl) _) g 3 _ _ (.int .i64 er) rfl rfl HGz.out rfl rfl (by simp) ?_; intro y4 a1 a2 a3; have HG4 : Hid (BL y4 g 97 [.slice A n c, .int .i64 (off : Int), .int .i64 l, .int .i64 er]) := Lib.hid a1; have HV4 := Lib.hid (a2.bl HVz.out (by have := HSZ.out; omega)); have HR4 := Lib.hid (a2.bl HRz.out (by have := HSZ.out; omega)); have HK4 : Hid (Kp (· = g) w y4) := Lib.hid ((Kp.of_below HBz.out).trans a2); clear a1 a2 a3)
          | ((with_reducible show wpList _ _ _ (⟨some 54, _, _, _, _, _⟩ :: _) _ _); refine wpList_loadv _ rfl 100 (.tmp 7) rfl 6 (by kernel_rfl) w1.heap.size 0 (vaC 6 0 [] 0) rfl (BL.all HV4.out) rfl ?_)
          | ((with_reducible show wpList _ _ _ (⟨none, _, _, _, _, _⟩ :: _) _ _); refine wpList_storev _ rfl 100 (.tmp 6) (.tmp 54) rfl 6 (by kernel_rfl) w.heap.size 0 _ (vaC 0 0 [] 0) (vaC 6 0 [] 0) rfl rfl HR4.out rfl (one_val _ rfl) (by decide) ?_; intro w9 a1 a2 a3; have HR9 : Hid (BL w9 w.heap.size 100 (vaC 6 0 [] 0)) := Lib.hid a1; have HK9 := Lib.hid a2; clear a1 a2 a3)
          | fail)
        refine bodyPost_ret (results_at w9 Tryz.results41 (n := 6) (by kernel_rfl) (g := w.heap.size) (o := 0) rfl (ms := (vaC 6 0 [] 0)) (BL.all HR9.out) rfl) rfl ?_
        rw [rdV_bad HX.out.symm]
        have hk : Kp (· = g) w w9 := HK4.out.after HK9.out (fun i hi e => by omega)
        refine ⟨congrArg (fun v : List Value => Ending.returned (.agg v.toArray)) vaS0.symm, ⟨⟨l, ?_⟩, HBS.out.kpf hk HF.out, HF.out, ho'⟩, hk⟩
        have h9 := HK9.out.bl HG4.out (by have := HSZ.out; omega)
        rw [HEE.out] at h9
        exact h9
  · rw [rdV_err h0]
    have f0 : (err != 0) = true := by rw [bne_iff_ne]; exact h0
    clear h0
    go_enter Tryz.func41, Tryz.ntmps41
    go_wp2_with (first
      | ((with_reducible show wpList _ _ _ (⟨some 6, _, _, _, _, _⟩ :: _) _ _); refine wpList_alloc _ rfl 100 rfl (vaC 0 0 [] 0) vaZero ?_; intro w1 a1 a2 a3; have HR1 := Lib.hid a1; have HB1 := Lib.hid a2; clear a1 a2 a3)
      | ((with_reducible show wpList _ _ _ (⟨some 13, _, _, _, _, _⟩ :: _) _ _); refine wpList_build _ rfl 100 _ rfl #[(0, .int .i64 6), (5, .int .i64 0)] (by rw [List.map_toArray]; rfl) (.agg (vaC 6 0 [] 0).toArray) (by exact bldVa _ _ _) ?_)
      | ((with_reducible show wpList _ _ _ (⟨some 7, _, _, _, _, _⟩ :: _) _ _); refine wpList_alloc _ rfl 100 rfl (vaC 0 0 [] 0) vaZero ?_; intro w2 a1 a2 a3; have HV2 := Lib.hid a1; have HR2 := Lib.hid (HR1.out.kept a2); have HB2 := Lib.hid (below_then HB1.out a2); clear a1 a2 a3)
      | ((with_reducible show wpList _ _ _ (⟨none, _, _, _, _, _⟩ :: _) _ _); refine wpList_storev _ rfl 100 (.tmp 7) (.tmp 13) rfl 6 (by kernel_rfl) w1.heap.size 0 _ (vaC 0 0 [] 0) (vaC 6 0 [] 0) rfl rfl HV2.out rfl (one_val _ rfl) (by decide) ?_; intro w3 a1 a2 a3; have HV3 : Hid (BL w3 w1.heap.size 100 (vaC 6 0 [] 0)) := Lib.hid a1; have HR3 := Lib.hid (a2.bl HR2.out (by have := HR1.out.lt; omega)); have HB3 : Hid (Below w.heap.size w w3) := Lib.hid (low_own HB2.out a2 (fun i hi e => by have := HB1.out.size; omega)); have q3 := (HG.out.kept HB3.out).get (j := 3) rfl; clear a1 a2 a3)
      | ((with_reducible show wpList _ _ _ (⟨some 19, _, _, _, _, _⟩ :: _) _ _); refine wpList_loadv _ rfl 100 (.tmp 7) rfl 6 (by kernel_rfl) w1.heap.size 0 (vaC 6 0 [] 0) rfl (BL.all HV3.out) rfl ?_)
      | ((with_reducible show wpList _ _ _ (⟨none, _, _, _, _, _⟩ :: _) _ _); refine wpList_storev _ rfl 100 (.tmp 6) (.tmp 19) rfl 6 (by kernel_rfl) w.heap.size 0 _ (vaC 0 0 [] 0) (vaC 6 0 [] 0) rfl rfl HR3.out rfl (one_val _ rfl) (by decide) ?_; intro w9 a1 a2 a3; have HR9 : Hid (BL w9 w.heap.size 100 (vaC 6 0 [] 0)) := Lib.hid a1; have HK9 := Lib.hid a2; clear a1 a2 a3)
      | fail)
    refine bodyPost_ret (results_at w9 Tryz.results41 (n := 6) (by kernel_rfl) (g := w.heap.size) (o := 0) rfl (ms := (vaC 6 0 [] 0)) (BL.all HR9.out) rfl) rfl ?_
    have hk : Kp (· = g) w w9 := (Kp.of_below HB3.out).after HK9.out (fun i hi e => by omega)
    exact ⟨congrArg (fun v : List Value => Ending.returned (.agg v.toArray)) vaS0.symm, ⟨⟨l, (HG.out.kept HB3.out |> fun h => HK9.out.bl h (by have := HGL.out; omega))⟩, (HBS.out.kept HB3.out).kpf HK9.out (HBS.out.far_new (fun k e => Nat.le_of_eq e.symm)), HF.out, ho'⟩, hk⟩
set_option maxRecDepth 100000 in
set_option maxHeartbeats 4000000 in
theorem rint_rd  (w : World) (g n c : Nat) (A : Option Addr) (b : List UInt8) (s : Rd) (h : RfS w g A n c b s) :
    Calls Tryz.prog 41 #[.pointer (some ⟨g, 0, none⟩), .int .i64 2, .int .i64 0] w fun e w' => e = .returned (.agg (vaI (rdV 0 uD b s).1).toArray) ∧ RfS w' g A n c b (rdV 0 uD b s).2 ∧ Kp (· = g) w w' := by
  obtain ⟨off, last, err⟩ := s
  obtain ⟨⟨l, hg⟩, hbs, hfar, ho⟩ := h
  have HG := Lib.hid hg
  have HBS := Lib.hid hbs
  have HF := Lib.hid hfar
  have HGL := Lib.hid hg.lt
  have ho' : off ≤ n := ho
  clear hg hbs hfar ho
  by_cases h0 : err = 0
  · subst h0
    obtain ⟨X, hX⟩ : ∃ X, X = uD (b.drop off) := ⟨_, rfl⟩
    have HX := Lib.hid hX
    obtain ⟨V, hV⟩ : ∃ V, V = (vaI (vO 0 X)) := ⟨_, rfl⟩
    have HVL : Hid (V.length = 6 ∧ ∀ v ∈ V, v.oneCell' = true) := Lib.hid (by rw [hV]; exact ⟨rfl, one_val _ rfl⟩)
    obtain ⟨nx, hnx⟩ : ∃ nx, nx = nxO off X := ⟨_, rfl⟩
    obtain ⟨er, her⟩ : ∃ er, er = eO X := ⟨_, rfl⟩
    have HRD : Hid (∀ w9 : World, BS w9 A n c b → Calls Tryz.prog 75 #[.slice A n c, .int .i64 (off : Int), .int .i64 2, .int .i64 0] w9 fun e w' => e = .returned (.tuple #[.agg V.toArray, .int .i64 (nx : Int), .int .i64 er]) ∧ Below w9.heap.size w9 w') := Lib.hid (fun w9 h9 => by
      have h8 := rread_int A n c b off w9 h9 ho'
      rw [← hX, ← hnx, ← her] at h8
      rw [hV]
      exact h8)
    have HVV := Lib.hid hV
    have HNX := Lib.hid hnx
    have HER := Lib.hid her
    clear hX hV hnx her
    go_enter Tryz.func41, Tryz.ntmps41
    go_wp2_with (first
      | ((with_reducible show wpList _ _ _ (⟨some 6, _, _, _, _, _⟩ :: _) _ _); refine wpList_alloc _ rfl 100 rfl (vaC 0 0 [] 0) vaZero ?_; intro w1 a1 a2 a3; have HR1 := Lib.hid a1; have HB1 := Lib.hid a2; clear a1 a2 a3)
      | ((with_reducible show wpList _ _ _ (⟨some 13, _, _, _, _, _⟩ :: _) _ _); refine wpList_build _ rfl 100 _ rfl #[(0, .int .i64 2), (5, .int .i64 0)] (by rw [List.map_toArray]; rfl) (.agg (vaC 2 0 [] 0).toArray) (by exact bldVa _ _ _) ?_)
      | ((with_reducible show wpList _ _ _ (⟨some 7, _, _, _, _, _⟩ :: _) _ _); refine wpList_alloc _ rfl 100 rfl (vaC 0 0 [] 0) vaZero ?_; intro w2 a1 a2 a3; have HV2 := Lib.hid a1; have HR2 := Lib.hid (HR1.out.kept a2); have HB2 := Lib.hid (below_then HB1.out a2); clear a1 a2 a3)
      | ((with_reducible show wpList _ _ _ (⟨none, _, _, _, _, _⟩ :: _) _ _); refine wpList_storev _ rfl 100 (.tmp 7) (.tmp 13) rfl 6 (by kernel_rfl) w1.heap.size 0 _ (vaC 0 0 [] 0) (vaC 2 0 [] 0) rfl rfl HV2.out rfl (one_val _ rfl) (by decide) ?_; intro w3 a1 a2 a3; have HV3 : Hid (BL w3 w1.heap.size 100 (vaC 2 0 [] 0)) := Lib.hid a1; have HR3 := Lib.hid (a2.bl HR2.out (by have := HR1.out.lt; omega)); have HB3 : Hid (Below w.heap.size w w3) := Lib.hid (low_own HB2.out a2 (fun i hi e => by have := HB1.out.size; omega)); have q3 := (HG.out.kept HB3.out).get (j := 3) rfl; clear a1 a2 a3)
      | fail)
    go_simp
    obtain ⟨wy, hwy⟩ : ∃ wy, wy = w3 := ⟨_, rfl⟩
    have HXY : Hid (wy = w3) := Lib.hid hwy
    rw [← hwy]
    clear hwy
    have HGy : Hid (BL wy g 97 [.slice A n c, .int .i64 (off : Int), .int .i64 l, .int .i64 0]) := Lib.hid (by rw [HXY.out]; exact HG.out.kept HB3.out)
    have HBSy : Hid (BS wy A n c b) := Lib.hid (by rw [HXY.out]; exact HBS.out.kept HB3.out)
    have HVy : Hid (BL wy w1.heap.size 100 (vaC 2 0 [] 0)) := Lib.hid (by rw [HXY.out]; exact HV3.out)
    have HRy : Hid (BL wy w.heap.size 100 (vaC 0 0 [] 0)) := Lib.hid (by rw [HXY.out]; exact HR3.out)
    have HBy : Hid (Below w.heap.size w wy) := Lib.hid (by rw [HXY.out]; exact HB3.out)
    have HSZ : Hid (g < w.heap.size ∧ w.heap.size < w1.heap.size ∧ w1.heap.size < wy.heap.size) := Lib.hid ⟨HGL.out, HR1.out.lt, HVy.out.lt⟩
    clear HXY HB3 HV3 HR3 HR1 HB1 HV2 HR2 HB2 q3
    go_cut [8, 9, 10] (fun s8 s9 s10 wx => ∃ gy : Nat, s8 = .pointer (some ⟨gy, 0, none⟩) ∧ s9 = .int .i64 (nx : Int) ∧ s10 = .int .i64 er ∧ Hid (BL wx gy 100 V) ∧ Hid (Below wy.heap.size wy wx) ∧ Hid (wy.heap.size ≤ gy))
    case first =>
      refine Text.wp_region_bt (fun w' => w'.cell? ⟨g, 0, none⟩ = some (.slice A n c) ∧ w'.cell? ⟨g, 1, none⟩ = some (.int .i64 (off : Int))) (.still 0 4 (.still 1 4 (.still 2 4 (.still 4 4 (.still 5 4 (.still 6 4 (.still 8 4 (.still 9 4 (.still 3 0 (.still 7 0 (.br 10 (.still 11 4 (.still 12 4 (.still 13 4 (.still 14 4 (.eff 15 (.eff 16 (.still 17 4 (.still 18 4 .leaf)))))))) 15 (.eff 10 (.still 11 4 (.still 12 4 (.still 13 4 (.still 14 4 (.eff 16 (.still 17 4 (.still 18 4 .leaf))))))))))))))))))) (by kernel_rfl) (by kernel_rfl) (fun _ _ _ _ _ h => h) (⟨HGy.out.get (j := 0) rfl, HGy.out.get (j := 1) rfl⟩) ?_
      iterate 8 (refine Text.bpurek rfl rfl (fun K hK => ⟨_, fun w' => by go_simp <;> rfl, ?_⟩); go_simp; refine hK _ ?_; clear hK K)
      iterate 2 (refine Text.bheldk rfl rfl (fun K hK => ⟨_, fun w' hw' => by go_simp <;> rfl, ?_⟩); go_simp; refine hK _ ?_; clear hK K)
      refine Text.bfork ?_ ?_
      · refine Text.beff rfl rfl (fun K hK => ?_)
        go_simp
        refine (HRD.out wy.drew HBSy.out.drew).mono ?_
        rintro e y1 ⟨rfl, b1⟩
        have HX1 : Hid (Below wy.heap.size wy y1) := Lib.hid ((Below.refl _ _).drew.trans (b1.mono (Nat.le_refl _)))
        refine hK _ _ ⟨(HGy.out.kept HX1.out).get (j := 0) rfl, (HGy.out.kept HX1.out).get (j := 1) rfl⟩ ?_
        clear hK K b1
        iterate 4 (refine Text.bpurek rfl rfl (fun K hK => ⟨_, fun w' => by go_simp <;> rfl, ?_⟩); go_simp; refine hK _ ?_; clear hK K)
        refine Text.beff rfl rfl (fun K hK => ?_)
        refine wp_alloc 100 rfl (vaC 0 0 [] 0) vaZero ?_
        intro y2 a1 a2 a3
        have HN2 := Lib.hid a1
        have HX2 : Hid (Below wy.heap.size wy y2) := Lib.hid (below_then HX1.out a2)
        refine hK _ _ ⟨(HGy.out.kept HX2.out).get (j := 0) rfl, (HGy.out.kept HX2.out).get (j := 1) rfl⟩ ?_
        clear hK K a1 a2 a3
        refine Text.beff rfl rfl (fun K hK => ?_)
        refine wp_storev 100 (.tmp 8) (.tmp 45) rfl 6 (by kernel_rfl) y1.heap.size 0 _ (vaC 0 0 [] 0) V rfl rfl HN2.out HVL.out.1 HVL.out.2 (by decide) ?_
        intro y3 a1 a2 a3
        have HN3 : Hid (BL y3 y1.heap.size 100 V) := Lib.hid (by have h9 := a1; rw [splice_whole HVL.out.1] at h9; exact h9)
        have HX3 : Hid (Below wy.heap.size wy y3) := Lib.hid (low_own HX2.out a2 (fun i hi e => by have := HX1.out.size; omega))
        refine hK _ _ ⟨(HGy.out.kept HX3.out).get (j := 0) rfl, (HGy.out.kept HX3.out).get (j := 1) rfl⟩ ?_
        clear hK K a1 a2 a3
        iterate 2 (refine Text.bpurek rfl rfl (fun K hK => ⟨_, fun w' => by go_simp <;> rfl, ?_⟩); go_simp; refine hK _ ?_; clear hK K)
        refine Text.bdone ?_
        go_wp2_with fail
        go_meet
        exact ⟨_, rfl, rfl, rfl, HN3, HX3, Lib.hid HX1.out.size⟩
      · refine Text.beff rfl rfl (fun K hK => ?_)
        refine wp_alloc 100 rfl (vaC 0 0 [] 0) vaZero ?_
        intro y2 a1 a2 a3
        have HN2 := Lib.hid a1
        have HX2 : Hid (Below wy.heap.size wy y2) := Lib.hid (below_then (Below.refl _ _).drew a2)
        refine hK _ _ ⟨(HGy.out.kept HX2.out).get (j := 0) rfl, (HGy.out.kept HX2.out).get (j := 1) rfl⟩ ?_
        clear hK K a1 a2 a3
        refine Text.beff rfl rfl (fun K hK => ?_)
        go_simp
        refine (HRD.out y2 (HBSy.out.kept HX2.out)).mono ?_
        rintro e y1 ⟨rfl, b1⟩
        have HX1 : Hid (Below wy.heap.size wy y1) := Lib.hid (below_then HX2.out b1)
        have HN1 := Lib.hid (HN2.out.kept b1)
        refine hK _ _ ⟨(HGy.out.kept HX1.out).get (j := 0) rfl, (HGy.out.kept HX1.out).get (j := 1) rfl⟩ ?_
        clear hK K b1
        iterate 4 (refine Text.bpurek rfl rfl (fun K hK => ⟨_, fun w' => by go_simp <;> rfl, ?_⟩); go_simp; refine hK _ ?_; clear hK K)
        refine Text.beff rfl rfl (fun K hK => ?_)
        refine wp_storev 100 (.tmp 8) (.tmp 45) rfl 6 (by kernel_rfl) _ 0 _ (vaC 0 0 [] 0) V rfl rfl HN1.out HVL.out.1 HVL.out.2 (by decide) ?_
        intro y3 a1 a2 a3
        have HN3 : Hid (BL y3 wy.drew.heap.size 100 V) := Lib.hid (by have h9 := a1; rw [splice_whole HVL.out.1] at h9; exact h9)
        have HX3 : Hid (Below wy.heap.size wy y3) := Lib.hid (low_own HX1.out a2 (fun i hi e => by have h8 : i = wy.heap.size := e; omega))
        refine hK _ _ ⟨(HGy.out.kept HX3.out).get (j := 0) rfl, (HGy.out.kept HX3.out).get (j := 1) rfl⟩ ?_
        clear hK K a1 a2 a3
        iterate 2 (refine Text.bpurek rfl rfl (fun K hK => ⟨_, fun w' => by go_simp <;> rfl, ?_⟩); go_simp; refine hK _ ?_; clear hK K)
        refine Text.bdone ?_
        go_wp2_with fail
        go_meet
        exact ⟨_, rfl, rfl, rfl, HN3, HX3, Lib.hid (Nat.le_refl _)⟩
    case rest =>
      obtain ⟨gy, rfl, rfl, rfl, hv, hb, hgy⟩ := hcut
      obtain ⟨wz, hwz⟩ : ∃ wz, wz = wc := ⟨_, rfl⟩
      rw [← hwz] at hv hb ⊢
      clear hwz
      have HGz := Lib.hid (HGy.out.kept hb.out)
      have HVz := Lib.hid (HVy.out.kept hb.out)
      have HRz := Lib.hid (HRy.out.kept hb.out)
      have HBz := Lib.hid (below_thenB HBy.out HBy.out.size hb.out)
      have q1 := HGz.out.get (j := 1) rfl
      have HV1' : Hid (∀ v ∈ V, v.oneCell' = true) := Lib.hid HVL.out.2
      cases X with
      | ok x =>
        have hz0 : er = 0 := HER.out
        subst hz0
        have hxl := uD_len HX.out.symm
        rw [List.length_drop, HBS.out.1] at hxl
        have HNXX : Hid (nx = off + x.2) := Lib.hid HNX.out
        have HNN : Hid (off + x.2 ≤ n) := Lib.hid (by omega)
        clear hxl
        go_wp2_with (first
          | ((with_reducible show wpList _ _ _ (⟨none, _, _, _, _, _⟩ :: _) _ _); refine wpList_store1 _ rfl 3 (.tmp 63) (.tmp 60) rfl (sz1 _ (by kernel_rfl) _) g 2 _ _ (.int .i64 (off : Int)) rfl rfl HGz.out rfl rfl (by simp) ?_; intro y4 a1 a2 a3; have HG4 : Hid (BL y4 g 97 [.slice A n c, .int .i64 (off : Int), .int .i64 (off : Int), .int .i64 0]) := Lib.hid a1; have HN4 := Lib.hid (a2.bl hv.out (by have := HSZ.out; have := hgy.out; omega)); have HR4 := Lib.hid (a2.bl HRz.out (by have := HSZ.out; omega)); have HK4 : Hid (Kp (· = g) w y4) := Lib.hid ((Kp.of_below HBz.out).trans a2); clear a1 a2 a3)
          | ((with_reducible show wpList _ _ _ (⟨none, _, _, _, _, _⟩ :: _) _ _); refine wpList_store1 _ rfl 3 (.tmp 65) (.tmp 61) rfl (sz1 _ (by kernel_rfl) _) g 1 _ _ (.int .i64 (nx : Int)) rfl rfl HG4.out rfl rfl (by simp) ?_; intro y5 a1 a2 a3; have HG5 : Hid (BL y5 g 97 [.slice A n c, .int .i64 (nx : Int), .int .i64 (off : Int), .int .i64 0]) := Lib.hid a1; have HN5 := Lib.hid (a2.bl HN4.out (by have := HSZ.out; have := hgy.out; omega)); have HR5 := Lib.hid (a2.bl HR4.out (by have := HSZ.out; omega)); have HK5 : Hid (Kp (· = g) w y5) := Lib.hid (HK4.out.trans a2); clear a1 a2 a3)
          | ((with_reducible show wpList _ _ _ (⟨some 66, _, _, _, _, _⟩ :: _) _ _); refine wpList_loadv _ rfl 100 (.tmp 8) rfl 6 (by kernel_rfl) gy 0 V rfl (BL.all HN5.out) HVL.out.1 ?_)
          | ((with_reducible show wpList _ _ _ (⟨none, _, _, _, _, _⟩ :: _) _ _); refine wpList_storev _ rfl 100 (.tmp 6) (.tmp 66) rfl 6 (by kernel_rfl) w.heap.size 0 _ (vaC 0 0 [] 0) V rfl rfl HR5.out HVL.out.1 HV1'.out (by decide) ?_; intro w9 a1 a2 a3; have HR9 : Hid (BL w9 w.heap.size 100 V) := Lib.hid (by have h9 := a1; rw [splice_whole HVL.out.1] at h9; exact h9); have HK9 := Lib.hid a2; clear a1 a2 a3))
        refine bodyPost_ret (results_at w9 Tryz.results41 (n := 6) (by kernel_rfl) (g := w.heap.size) (o := 0) rfl (ms := V) (BL.all HR9.out) HVL.out.1) rfl ?_
        rw [rdV_ok HX.out.symm]
        have hk : Kp (· = g) w w9 := HK5.out.after HK9.out (fun i hi e => by omega)
        refine ⟨by rw [HVV.out]; rfl, ⟨⟨(off : Int), ?_⟩, HBS.out.kpf hk HF.out, HF.out, HNN.out⟩, hk⟩
        have h9 := HK9.out.bl HG5.out (by have := HSZ.out; omega)
        rw [HNXX.out] at h9
        exact h9
      | error e =>
        have hne : er ≠ 0 := by have h9 := uD_err HX.out.symm; have h8 : er = e := HER.out; rw [h8]; exact h9
        have HEE : Hid (er = e) := Lib.hid HER.out
        have f0 : (er != 0) = true := by rw [bne_iff_ne]; exact hne
        clear hne
        go_wp2_with (first
          | ((with_reducible show wpList _ _ _ (⟨none, _, _, _, _, _⟩ :: _) _ _); refine wpList_store1 _ rfl 25 (.tmp 53) (.tmp 51) rfl (sz1 _ (by kernel_rfl) _) g 3 _ _ (.int .i64 er) rfl rfl HGz.out rfl rfl (by simp) ?_; intro y4 a1 a2 a3; have HG4 : Hid (BL y4 g 97 [.slice A n c, .int .i64 (off : Int), .int .i64 l, .int .i64 er]) := Lib.hid a1; have HV4 := Lib.hid (a2.bl HVz.out (by have := HSZ.out; omega)); have HR4 := Lib.hid (a2.bl HRz.out (by have := HSZ.out; omega)); have HK4 : Hid (Kp (· = g) w y4) := Lib.hid ((Kp.of_below HBz.out).trans a2); clear a1 a2 a3)
          | ((with_reducible show wpList _ _ _ (⟨some 54, _, _, _, _, _⟩ :: _) _ _); refine wpList_loadv _ rfl 100 (.tmp 7) rfl 6 (by kernel_rfl) w1.heap.size 0 (vaC 2 0 [] 0) rfl (BL.all HV4.out) rfl ?_)
          | ((with_reducible show wpList _ _ _ (⟨none, _, _, _, _, _⟩ :: _) _ _); refine wpList_storev _ rfl 100 (.tmp 6) (.tmp 54) rfl 6 (by kernel_rfl) w.heap.size 0 _ (vaC 0 0 [] 0) (vaC 2 0 [] 0) rfl rfl HR4.out rfl (one_val _ rfl) (by decide) ?_; intro w9 a1 a2 a3; have HR9 : Hid (BL w9 w.heap.size 100 (vaC 2 0 [] 0)) := Lib.hid a1; have HK9 := Lib.hid a2; clear a1 a2 a3)
          | fail)
        refine bodyPost_ret (results_at w9 Tryz.results41 (n := 6) (by kernel_rfl) (g := w.heap.size) (o := 0) rfl (ms := (vaC 2 0 [] 0)) (BL.all HR9.out) rfl) rfl ?_
        rw [rdV_bad HX.out.symm]
        have hk : Kp (· = g) w w9 := HK4.out.after HK9.out (fun i hi e => by omega)
        refine ⟨congrArg (fun v : List Value => Ending.returned (.agg v.toArray)) vaI0.symm, ⟨⟨l, ?_⟩, HBS.out.kpf hk HF.out, HF.out, ho'⟩, hk⟩
        have h9 := HK9.out.bl HG4.out (by have := HSZ.out; omega)
        rw [HEE.out] at h9
        exact h9
  · rw [rdV_err h0]
    have f0 : (err != 0) = true := by rw [bne_iff_ne]; exact h0
    clear h0
    go_enter Tryz.func41, Tryz.ntmps41
    go_wp2_with (first
      | ((with_reducible show wpList _ _ _ (⟨some 6, _, _, _, _, _⟩ :: _) _ _); refine wpList_alloc _ rfl 100 rfl (vaC 0 0 [] 0) vaZero ?_; intro w1 a1 a2 a3; have HR1 := Lib.hid a1; have HB1 := Lib.hid a2; clear a1 a2 a3)
      | ((with_reducible show wpList _ _ _ (⟨some 13, _, _, _, _, _⟩ :: _) _ _); refine wpList_build _ rfl 100 _ rfl #[(0, .int .i64 2), (5, .int .i64 0)] (by rw [List.map_toArray]; rfl) (.agg (vaC 2 0 [] 0).toArray) (by exact bldVa _ _ _) ?_)
      | ((with_reducible show wpList _ _ _ (⟨some 7, _, _, _, _, _⟩ :: _) _ _); refine wpList_alloc _ rfl 100 rfl (vaC 0 0 [] 0) vaZero ?_; intro w2 a1 a2 a3; have HV2 := Lib.hid a1; have HR2 := Lib.hid (HR1.out.kept a2); have HB2 := Lib.hid (below_then HB1.out a2); clear a1 a2 a3)
      | ((with_reducible show wpList _ _ _ (⟨none, _, _, _, _, _⟩ :: _) _ _); refine wpList_storev _ rfl 100 (.tmp 7) (.tmp 13) rfl 6 (by kernel_rfl) w1.heap.size 0 _ (vaC 0 0 [] 0) (vaC 2 0 [] 0) rfl rfl HV2.out rfl (one_val _ rfl) (by decide) ?_; intro w3 a1 a2 a3; have HV3 : Hid (BL w3 w1.heap.size 100 (vaC 2 0 [] 0)) := Lib.hid a1; have HR3 := Lib.hid (a2.bl HR2.out (by have := HR1.out.lt; omega)); have HB3 : Hid (Below w.heap.size w w3) := Lib.hid (low_own HB2.out a2 (fun i hi e => by have := HB1.out.size; omega)); have q3 := (HG.out.kept HB3.out).get (j := 3) rfl; clear a1 a2 a3)
      | ((with_reducible show wpList _ _ _ (⟨some 19, _, _, _, _, _⟩ :: _) _ _); refine wpList_loadv _ rfl 100 (.tmp 7) rfl 6 (by kernel_rfl) w1.heap.size 0 (vaC 2 0 [] 0) rfl (BL.all HV3.out) rfl ?_)
      | ((with_reducible show wpList _ _ _ (⟨none, _, _, _, _, _⟩ :: _) _ _); refine wpList_storev _ rfl 100 (.tmp 6) (.tmp 19) rfl 6 (by kernel_rfl) w.heap.size 0 _ (vaC 0 0 [] 0) (vaC 2 0 [] 0) rfl rfl HR3.out rfl (one_val _ rfl) (by decide) ?_; intro w9 a1 a2 a3; have HR9 : Hid (BL w9 w.heap.size 100 (vaC 2 0 [] 0)) := Lib.hid a1; have HK9 := Lib.hid a2; clear a1 a2 a3)
      | fail)
    refine bodyPost_ret (results_at w9 Tryz.results41 (n := 6) (by kernel_rfl) (g := w.heap.size) (o := 0) rfl (ms := (vaC 2 0 [] 0)) (BL.all HR9.out) rfl) rfl ?_
    have hk : Kp (· = g) w w9 := (Kp.of_below HB3.out).after HK9.out (fun i hi e => by omega)
    exact ⟨congrArg (fun v : List Value => Ending.returned (.agg v.toArray)) vaI0.symm, ⟨⟨l, (HG.out.kept HB3.out |> fun h => HK9.out.bl h (by have := HGL.out; omega))⟩, (HBS.out.kept HB3.out).kpf HK9.out (HBS.out.far_new (fun k e => Nat.le_of_eq e.symm)), HF.out, ho'⟩, hk⟩
set_option maxRecDepth 100000 in
set_option maxHeartbeats 4000000 in
theorem rcnt_rd (m : Nat) (hm : m ≤ 1099511627776) (w : World) (g n c : Nat) (A : Option Addr) (b : List UInt8) (s : Rd) (h : RfS w g A n c b s) :
    Calls Tryz.prog 41 #[.pointer (some ⟨g, 0, none⟩), .int .i64 7, .int .i64 (m : Int)] w fun e w' => e = .returned (.agg (vaN m (rdV 0 (cD m) b s).1).toArray) ∧ RfS w' g A n c b (rdV 0 (cD m) b s).2 ∧ Kp (· = g) w w' := by
  obtain ⟨off, last, err⟩ := s
  obtain ⟨⟨l, hg⟩, hbs, hfar, ho⟩ := h
  have HG := Lib.hid hg
  have HBS := Lib.hid hbs
  have HF := Lib.hid hfar
  have HGL := Lib.hid hg.lt
  have ho' : off ≤ n := ho
  clear hg hbs hfar ho
  by_cases h0 : err = 0
  · subst h0
    obtain ⟨X, hX⟩ : ∃ X, X = (cD m) (b.drop off) := ⟨_, rfl⟩
    have HX := Lib.hid hX
    obtain ⟨V, hV⟩ : ∃ V, V = (vaN m (vO 0 X)) := ⟨_, rfl⟩
    have HVL : Hid (V.length = 6 ∧ ∀ v ∈ V, v.oneCell' = true) := Lib.hid (by rw [hV]; exact ⟨rfl, one_val _ rfl⟩)
    obtain ⟨nx, hnx⟩ : ∃ nx, nx = nxO off X := ⟨_, rfl⟩
    obtain ⟨er, her⟩ : ∃ er, er = eO X := ⟨_, rfl⟩
    have HRD : Hid (∀ w9 : World, BS w9 A n c b → Calls Tryz.prog 75 #[.slice A n c, .int .i64 (off : Int), .int .i64 7, .int .i64 (m : Int)] w9 fun e w' => e = .returned (.tuple #[.agg V.toArray, .int .i64 (nx : Int), .int .i64 er]) ∧ Below w9.heap.size w9 w') := Lib.hid (fun w9 h9 => by
      have h8 := rread_count m hm A n c b off w9 h9 ho'
      rw [← hX, ← hnx, ← her] at h8
      rw [hV]
      exact h8)
    have HVV := Lib.hid hV
    have HNX := Lib.hid hnx
    have HER := Lib.hid her
    clear hX hV hnx her
    go_enter Tryz.func41, Tryz.ntmps41
    go_wp2_with (first
      | ((with_reducible show wpList _ _ _ (⟨some 6, _, _, _, _, _⟩ :: _) _ _); refine wpList_alloc _ rfl 100 rfl (vaC 0 0 [] 0) vaZero ?_; intro w1 a1 a2 a3; have HR1 := Lib.hid a1; have HB1 := Lib.hid a2; clear a1 a2 a3)
      | ((with_reducible show wpList _ _ _ (⟨some 13, _, _, _, _, _⟩ :: _) _ _); refine wpList_build _ rfl 100 _ rfl #[(0, .int .i64 7), (5, .int .i64 (m : Int))] (by rw [List.map_toArray]; rfl) (.agg (vaC 7 0 [] (m : Int)).toArray) (by exact bldVa _ _ _) ?_)
      | ((with_reducible show wpList _ _ _ (⟨some 7, _, _, _, _, _⟩ :: _) _ _); refine wpList_alloc _ rfl 100 rfl (vaC 0 0 [] 0) vaZero ?_; intro w2 a1 a2 a3; have HV2 := Lib.hid a1; have HR2 := Lib.hid (HR1.out.kept a2); have HB2 := Lib.hid (below_then HB1.out a2); clear a1 a2 a3)
      | ((with_reducible show wpList _ _ _ (⟨none, _, _, _, _, _⟩ :: _) _ _); refine wpList_storev _ rfl 100 (.tmp 7) (.tmp 13) rfl 6 (by kernel_rfl) w1.heap.size 0 _ (vaC 0 0 [] 0) (vaC 7 0 [] (m : Int)) rfl rfl HV2.out rfl (one_val _ rfl) (by decide) ?_; intro w3 a1 a2 a3; have HV3 : Hid (BL w3 w1.heap.size 100 (vaC 7 0 [] (m : Int))) := Lib.hid a1; have HR3 := Lib.hid (a2.bl HR2.out (by have := HR1.out.lt; omega)); have HB3 : Hid (Below w.heap.size w w3) := Lib.hid (low_own HB2.out a2 (fun i hi e => by have := HB1.out.size; omega)); have q3 := (HG.out.kept HB3.out).get (j := 3) rfl; clear a1 a2 a3)
      | fail)
    go_simp
    obtain ⟨wy, hwy⟩ : ∃ wy, wy = w3 := ⟨_, rfl⟩
    have HXY : Hid (wy = w3) := Lib.hid hwy
    rw [← hwy]
    clear hwy
    have HGy : Hid (BL wy g 97 [.slice A n c, .int .i64 (off : Int), .int .i64 l, .int .i64 0]) := Lib.hid (by rw [HXY.out]; exact HG.out.kept HB3.out)
    have HBSy : Hid (BS wy A n c b) := Lib.hid (by rw [HXY.out]; exact HBS.out.kept HB3.out)
    have HVy : Hid (BL wy w1.heap.size 100 (vaC 7 0 [] (m : Int))) := Lib.hid (by rw [HXY.out]; exact HV3.out)
    have HRy : Hid (BL wy w.heap.size 100 (vaC 0 0 [] 0)) := Lib.hid (by rw [HXY.out]; exact HR3.out)
    have HBy : Hid (Below w.heap.size w wy) := Lib.hid (by rw [HXY.out]; exact HB3.out)
    have HSZ : Hid (g < w.heap.size ∧ w.heap.size < w1.heap.size ∧ w1.heap.size < wy.heap.size) := Lib.hid ⟨HGL.out, HR1.out.lt, HVy.out.lt⟩
    clear HXY HB3 HV3 HR3 HR1 HB1 HV2 HR2 HB2 q3
    go_cut [8, 9, 10] (fun s8 s9 s10 wx => ∃ gy : Nat, s8 = .pointer (some ⟨gy, 0, none⟩) ∧ s9 = .int .i64 (nx : Int) ∧ s10 = .int .i64 er ∧ Hid (BL wx gy 100 V) ∧ Hid (Below wy.heap.size wy wx) ∧ Hid (wy.heap.size ≤ gy))
    case first =>
      refine Text.wp_region_bt (fun w' => w'.cell? ⟨g, 0, none⟩ = some (.slice A n c) ∧ w'.cell? ⟨g, 1, none⟩ = some (.int .i64 (off : Int))) (.still 0 4 (.still 1 4 (.still 2 4 (.still 4 4 (.still 5 4 (.still 6 4 (.still 8 4 (.still 9 4 (.still 3 0 (.still 7 0 (.br 10 (.still 11 4 (.still 12 4 (.still 13 4 (.still 14 4 (.eff 15 (.eff 16 (.still 17 4 (.still 18 4 .leaf)))))))) 15 (.eff 10 (.still 11 4 (.still 12 4 (.still 13 4 (.still 14 4 (.eff 16 (.still 17 4 (.still 18 4 .leaf))))))))))))))))))) (by kernel_rfl) (by kernel_rfl) (fun _ _ _ _ _ h => h) (⟨HGy.out.get (j := 0) rfl, HGy.out.get (j := 1) rfl⟩) ?_
      iterate 8 (refine Text.bpurek rfl rfl (fun K hK => ⟨_, fun w' => by go_simp <;> rfl, ?_⟩); go_simp; refine hK _ ?_; clear hK K)
      iterate 2 (refine Text.bheldk rfl rfl (fun K hK => ⟨_, fun w' hw' => by go_simp <;> rfl, ?_⟩); go_simp; refine hK _ ?_; clear hK K)
      refine Text.bfork ?_ ?_
      · refine Text.beff rfl rfl (fun K hK => ?_)
        go_simp
        refine (HRD.out wy.drew HBSy.out.drew).mono ?_
        rintro e y1 ⟨rfl, b1⟩
        have HX1 : Hid (Below wy.heap.size wy y1) := Lib.hid ((Below.refl _ _).drew.trans (b1.mono (Nat.le_refl _)))
        refine hK _ _ ⟨(HGy.out.kept HX1.out).get (j := 0) rfl, (HGy.out.kept HX1.out).get (j := 1) rfl⟩ ?_
        clear hK K b1
        iterate 4 (refine Text.bpurek rfl rfl (fun K hK => ⟨_, fun w' => by go_simp <;> rfl, ?_⟩); go_simp; refine hK _ ?_; clear hK K)
        refine Text.beff rfl rfl (fun K hK => ?_)
        refine wp_alloc 100 rfl (vaC 0 0 [] 0) vaZero ?_
        intro y2 a1 a2 a3
        have HN2 := Lib.hid a1
        have HX2 : Hid (Below wy.heap.size wy y2) := Lib.hid (below_then HX1.out a2)
        refine hK _ _ ⟨(HGy.out.kept HX2.out).get (j := 0) rfl, (HGy.out.kept HX2.out).get (j := 1) rfl⟩ ?_
        clear hK K a1 a2 a3
        refine Text.beff rfl rfl (fun K hK => ?_)
        refine wp_storev 100 (.tmp 8) (.tmp 45) rfl 6 (by kernel_rfl) y1.heap.size 0 _ (vaC 0 0 [] 0) V rfl rfl HN2.out HVL.out.1 HVL.out.2 (by decide) ?_
        intro y3 a1 a2 a3
        have HN3 : Hid (BL y3 y1.heap.size 100 V) := Lib.hid (by have h9 := a1; rw [splice_whole HVL.out.1] at h9; exact h9)
        have HX3 : Hid (Below wy.heap.size wy y3) := Lib.hid (low_own HX2.out a2 (fun i hi e => by have := HX1.out.size; omega))
        refine hK _ _ ⟨(HGy.out.kept HX3.out).get (j := 0) rfl, (HGy.out.kept HX3.out).get (j := 1) rfl⟩ ?_
        clear hK K a1 a2 a3
        iterate 2 (refine Text.bpurek rfl rfl (fun K hK => ⟨_, fun w' => by go_simp <;> rfl, ?_⟩); go_simp; refine hK _ ?_; clear hK K)
        refine Text.bdone ?_
        go_wp2_with fail
        go_meet
        exact ⟨_, rfl, rfl, rfl, HN3, HX3, Lib.hid HX1.out.size⟩
      · refine Text.beff rfl rfl (fun K hK => ?_)
        refine wp_alloc 100 rfl (vaC 0 0 [] 0) vaZero ?_
        intro y2 a1 a2 a3
        have HN2 := Lib.hid a1
        have HX2 : Hid (Below wy.heap.size wy y2) := Lib.hid (below_then (Below.refl _ _).drew a2)
        refine hK _ _ ⟨(HGy.out.kept HX2.out).get (j := 0) rfl, (HGy.out.kept HX2.out).get (j := 1) rfl⟩ ?_
        clear hK K a1 a2 a3
        refine Text.beff rfl rfl (fun K hK => ?_)
        go_simp
        refine (HRD.out y2 (HBSy.out.kept HX2.out)).mono ?_
        rintro e y1 ⟨rfl, b1⟩
        have HX1 : Hid (Below wy.heap.size wy y1) := Lib.hid (below_then HX2.out b1)
        have HN1 := Lib.hid (HN2.out.kept b1)
        refine hK _ _ ⟨(HGy.out.kept HX1.out).get (j := 0) rfl, (HGy.out.kept HX1.out).get (j := 1) rfl⟩ ?_
        clear hK K b1
        iterate 4 (refine Text.bpurek rfl rfl (fun K hK => ⟨_, fun w' => by go_simp <;> rfl, ?_⟩); go_simp; refine hK _ ?_; clear hK K)
        refine Text.beff rfl rfl (fun K hK => ?_)
        refine wp_storev 100 (.tmp 8) (.tmp 45) rfl 6 (by kernel_rfl) _ 0 _ (vaC 0 0 [] 0) V rfl rfl HN1.out HVL.out.1 HVL.out.2 (by decide) ?_
        intro y3 a1 a2 a3
        have HN3 : Hid (BL y3 wy.drew.heap.size 100 V) := Lib.hid (by have h9 := a1; rw [splice_whole HVL.out.1] at h9; exact h9)
        have HX3 : Hid (Below wy.heap.size wy y3) := Lib.hid (low_own HX1.out a2 (fun i hi e => by have h8 : i = wy.heap.size := e; omega))
        refine hK _ _ ⟨(HGy.out.kept HX3.out).get (j := 0) rfl, (HGy.out.kept HX3.out).get (j := 1) rfl⟩ ?_
        clear hK K a1 a2 a3
        iterate 2 (refine Text.bpurek rfl rfl (fun K hK => ⟨_, fun w' => by go_simp <;> rfl, ?_⟩); go_simp; refine hK _ ?_; clear hK K)
        refine Text.bdone ?_
        go_wp2_with fail
        go_meet
        exact ⟨_, rfl, rfl, rfl, HN3, HX3, Lib.hid (Nat.le_refl _)⟩
    case rest =>
      obtain ⟨gy, rfl, rfl, rfl, hv, hb, hgy⟩ := hcut
      obtain ⟨wz, hwz⟩ : ∃ wz, wz = wc := ⟨_, rfl⟩
      rw [← hwz] at hv hb ⊢
      clear hwz
      have HGz := Lib.hid (HGy.out.kept hb.out)
      have HVz := Lib.hid (HVy.out.kept hb.out)
      have HRz := Lib.hid (HRy.out.kept hb.out)
      have HBz := Lib.hid (below_thenB HBy.out HBy.out.size hb.out)
      have q1 := HGz.out.get (j := 1) rfl
      have HV1' : Hid (∀ v ∈ V, v.oneCell' = true) := Lib.hid HVL.out.2
      cases X with
      | ok x =>
        have hz0 : er = 0 := HER.out
        subst hz0
        have hxl := cD_len HX.out.symm
        rw [List.length_drop, HBS.out.1] at hxl
        have HNXX : Hid (nx = off + x.2) := Lib.hid HNX.out
        have HNN : Hid (off + x.2 ≤ n) := Lib.hid (by omega)
        clear hxl
        go_wp2_with (first
          | ((with_reducible show wpList _ _ _ (⟨none, _, _, _, _, _⟩ :: _) _ _); refine wpList_store1 _ rfl 3 (.tmp 63) (.tmp 60) rfl (sz1 _ (by kernel_rfl) _) g 2 _ _ (.int .i64 (off : Int)) rfl rfl HGz.out rfl rfl (by simp) ?_; intro y4 a1 a2 a3; have HG4 : Hid (BL y4 g 97 [.slice A n c, .int .i64 (off : Int), .int .i64 (off : Int), .int .i64 0]) := Lib.hid a1; have HN4 := Lib.hid (a2.bl hv.out (by have := HSZ.out; have := hgy.out; omega)); have HR4 := Lib.hid (a2.bl HRz.out (by have := HSZ.out; omega)); have HK4 : Hid (Kp (· = g) w y4) := Lib.hid ((Kp.of_below HBz.out).trans a2); clear a1 a2 a3)
          | ((with_reducible show wpList _ _ _ (⟨none, _, _, _, _, _⟩ :: _) _ _); refine wpList_store1 _ rfl 3 (.tmp 65) (.tmp 61) rfl (sz1 _ (by kernel_rfl) _) g 1 _ _ (.int .i64 (nx : Int)) rfl rfl HG4.out rfl rfl (by simp) ?_; intro y5 a1 a2 a3; have HG5 : Hid (BL y5 g 97 [.slice A n c, .int .i64 (nx : Int), .int .i64 (off : Int), .int .i64 0]) := Lib.hid a1; have HN5 := Lib.hid (a2.bl HN4.out (by have := HSZ.out; have := hgy.out; omega)); have HR5 := Lib.hid (a2.bl HR4.out (by have := HSZ.out; omega)); have HK5 : Hid (Kp (· = g) w y5) := Lib.hid (HK4.out.trans a2); clear a1 a2 a3)
          | ((with_reducible show wpList _ _ _ (⟨some 66, _, _, _, _, _⟩ :: _) _ _); refine wpList_loadv _ rfl 100 (.tmp 8) rfl 6 (by kernel_rfl) gy 0 V rfl (BL.all HN5.out) HVL.out.1 ?_)
          | ((with_reducible show wpList _ _ _ (⟨none, _, _, _, _, _⟩ :: _) _ _); refine wpList_storev _ rfl 100 (.tmp 6) (.tmp 66) rfl 6 (by kernel_rfl) w.heap.size 0 _ (vaC 0 0 [] 0) V rfl rfl HR5.out HVL.out.1 HV1'.out (by decide) ?_; intro w9 a1 a2 a3; have HR9 : Hid (BL w9 w.heap.size 100 V) := Lib.hid (by have h9 := a1; rw [splice_whole HVL.out.1] at h9; exact h9); have HK9 := Lib.hid a2; clear a1 a2 a3))
        refine bodyPost_ret (results_at w9 Tryz.results41 (n := 6) (by kernel_rfl) (g := w.heap.size) (o := 0) rfl (ms := V) (BL.all HR9.out) HVL.out.1) rfl ?_
        rw [rdV_ok HX.out.symm]
        have hk : Kp (· = g) w w9 := HK5.out.after HK9.out (fun i hi e => by omega)
        refine ⟨by rw [HVV.out]; rfl, ⟨⟨(off : Int), ?_⟩, HBS.out.kpf hk HF.out, HF.out, HNN.out⟩, hk⟩
        have h9 := HK9.out.bl HG5.out (by have := HSZ.out; omega)
        rw [HNXX.out] at h9
        exact h9
      | error e =>
        have hne : er ≠ 0 := by have h9 := cD_err HX.out.symm; have h8 : er = e := HER.out; rw [h8]; exact h9
        have HEE : Hid (er = e) := Lib.hid HER.out
        have f0 : (er != 0) = true := by rw [bne_iff_ne]; exact hne
        clear hne
        go_wp2_with (first
          | ((with_reducible show wpList _ _ _ (⟨none, _, _, _, _, _⟩ :: _) _ _); refine wpList_store1 _ rfl 25 (.tmp 53) (.tmp 51) rfl (sz1 _ (by kernel_rfl) _) g 3 _ _ (.int .i64 er) rfl rfl HGz.out rfl rfl (by simp) ?_; intro y4 a1 a2 a3; have HG4 : Hid (BL y4 g 97 [.slice A n c, .int .i64 (off : Int), .int .i64 l, .int .i64 er]) := Lib.hid a1; have HV4 := Lib.hid (a2.bl HVz.out (by have := HSZ.out; omega)); have HR4 := Lib.hid (a2.bl HRz.out (by have := HSZ.out; omega)); have HK4 : Hid (Kp (· = g) w y4) := Lib.hid ((Kp.of_below HBz.out).trans a2); clear a1 a2 a3)
          | ((with_reducible show wpList _ _ _ (⟨some 54, _, _, _, _, _⟩ :: _) _ _); refine wpList_loadv _ rfl 100 (.tmp 7) rfl 6 (by kernel_rfl) w1.heap.size 0 (vaC 7 0 [] (m : Int)) rfl (BL.all HV4.out) rfl ?_)
          | ((with_reducible show wpList _ _ _ (⟨none, _, _, _, _, _⟩ :: _) _ _); refine wpList_storev _ rfl 100 (.tmp 6) (.tmp 54) rfl 6 (by kernel_rfl) w.heap.size 0 _ (vaC 0 0 [] 0) (vaC 7 0 [] (m : Int)) rfl rfl HR4.out rfl (one_val _ rfl) (by decide) ?_; intro w9 a1 a2 a3; have HR9 : Hid (BL w9 w.heap.size 100 (vaC 7 0 [] (m : Int))) := Lib.hid a1; have HK9 := Lib.hid a2; clear a1 a2 a3)
          | fail)
        refine bodyPost_ret (results_at w9 Tryz.results41 (n := 6) (by kernel_rfl) (g := w.heap.size) (o := 0) rfl (ms := (vaC 7 0 [] (m : Int))) (BL.all HR9.out) rfl) rfl ?_
        rw [rdV_bad HX.out.symm]
        have hk : Kp (· = g) w w9 := HK4.out.after HK9.out (fun i hi e => by omega)
        refine ⟨congrArg (fun v : List Value => Ending.returned (.agg v.toArray)) (vaN0 m).symm, ⟨⟨l, ?_⟩, HBS.out.kpf hk HF.out, HF.out, ho'⟩, hk⟩
        have h9 := HK9.out.bl HG4.out (by have := HSZ.out; omega)
        rw [HEE.out] at h9
        exact h9
  · rw [rdV_err h0]
    have f0 : (err != 0) = true := by rw [bne_iff_ne]; exact h0
    clear h0
    go_enter Tryz.func41, Tryz.ntmps41
    go_wp2_with (first
      | ((with_reducible show wpList _ _ _ (⟨some 6, _, _, _, _, _⟩ :: _) _ _); refine wpList_alloc _ rfl 100 rfl (vaC 0 0 [] 0) vaZero ?_; intro w1 a1 a2 a3; have HR1 := Lib.hid a1; have HB1 := Lib.hid a2; clear a1 a2 a3)
      | ((with_reducible show wpList _ _ _ (⟨some 13, _, _, _, _, _⟩ :: _) _ _); refine wpList_build _ rfl 100 _ rfl #[(0, .int .i64 7), (5, .int .i64 (m : Int))] (by rw [List.map_toArray]; rfl) (.agg (vaC 7 0 [] (m : Int)).toArray) (by exact bldVa _ _ _) ?_)
      | ((with_reducible show wpList _ _ _ (⟨some 7, _, _, _, _, _⟩ :: _) _ _); refine wpList_alloc _ rfl 100 rfl (vaC 0 0 [] 0) vaZero ?_; intro w2 a1 a2 a3; have HV2 := Lib.hid a1; have HR2 := Lib.hid (HR1.out.kept a2); have HB2 := Lib.hid (below_then HB1.out a2); clear a1 a2 a3)
      | ((with_reducible show wpList _ _ _ (⟨none, _, _, _, _, _⟩ :: _) _ _); refine wpList_storev _ rfl 100 (.tmp 7) (.tmp 13) rfl 6 (by kernel_rfl) w1.heap.size 0 _ (vaC 0 0 [] 0) (vaC 7 0 [] (m : Int)) rfl rfl HV2.out rfl (one_val _ rfl) (by decide) ?_; intro w3 a1 a2 a3; have HV3 : Hid (BL w3 w1.heap.size 100 (vaC 7 0 [] (m : Int))) := Lib.hid a1; have HR3 := Lib.hid (a2.bl HR2.out (by have := HR1.out.lt; omega)); have HB3 : Hid (Below w.heap.size w w3) := Lib.hid (low_own HB2.out a2 (fun i hi e => by have := HB1.out.size; omega)); have q3 := (HG.out.kept HB3.out).get (j := 3) rfl; clear a1 a2 a3)
      | ((with_reducible show wpList _ _ _ (⟨some 19, _, _, _, _, _⟩ :: _) _ _); refine wpList_loadv _ rfl 100 (.tmp 7) rfl 6 (by kernel_rfl) w1.heap.size 0 (vaC 7 0 [] (m : Int)) rfl (BL.all HV3.out) rfl ?_)
      | ((with_reducible show wpList _ _ _ (⟨none, _, _, _, _, _⟩ :: _) _ _); refine wpList_storev _ rfl 100 (.tmp 6) (.tmp 19) rfl 6 (by kernel_rfl) w.heap.size 0 _ (vaC 0 0 [] 0) (vaC 7 0 [] (m : Int)) rfl rfl HR3.out rfl (one_val _ rfl) (by decide) ?_; intro w9 a1 a2 a3; have HR9 : Hid (BL w9 w.heap.size 100 (vaC 7 0 [] (m : Int))) := Lib.hid a1; have HK9 := Lib.hid a2; clear a1 a2 a3)
      | fail)
    refine bodyPost_ret (results_at w9 Tryz.results41 (n := 6) (by kernel_rfl) (g := w.heap.size) (o := 0) rfl (ms := (vaC 7 0 [] (m : Int))) (BL.all HR9.out) rfl) rfl ?_
    have hk : Kp (· = g) w w9 := (Kp.of_below HB3.out).after HK9.out (fun i hi e => by omega)
    exact ⟨congrArg (fun v : List Value => Ending.returned (.agg v.toArray)) (vaN0 m).symm, ⟨⟨l, (HG.out.kept HB3.out |> fun h => HK9.out.bl h (by have := HGL.out; omega))⟩, (HBS.out.kept HB3.out).kpf HK9.out (HBS.out.far_new (fun k e => Nat.le_of_eq e.symm)), HF.out, ho'⟩, hk⟩
set_option maxHeartbeats 1000000 in
theorem rend_any (w : World) (g n c : Nat) (A : Option Addr) (b : List UInt8) (s : Rd) (h : RfS w g A n c b s) :
    Calls Tryz.prog 42 #[.pointer (some ⟨g, 0, none⟩)] w fun e w' => (∃ z : Int, e = .returned (.tuple #[.int .i64 z, .int .i64 (endR n s)])) ∧ Below w.heap.size w w' := by
  obtain ⟨off, last, err⟩ := s
  obtain ⟨⟨l, hg⟩, _⟩ := h
  have HG := Lib.hid hg
  have q1 : w.drew.cell? ⟨g, 1, none⟩ = some (.int .i64 (off : Int)) := hg.get (j := 1) rfl
  have q3 : w.drew.cell? ⟨g, 3, none⟩ = some (.int .i64 err) := hg.get (j := 3) rfl
  clear hg
  by_cases h0 : err = 0
  · subst h0
    by_cases hlt : off < n
    · have HE : Hid (endR n ⟨off, last, 0⟩ = 3) := Lib.hid (by unfold endR; rw [if_pos rfl, if_pos hlt])
      have fl : decide ((off : Int) < (n : Int)) = true := decide_eq_true (by omega)
      have fl' : decide (off < n) = true := decide_eq_true hlt
      go_enter Tryz.func42, Tryz.ntmps42
      go_wp2_with fail
      refine Text.wp_region_text (fun w' => w'.cell? ⟨g, 0, none⟩ = some (.slice A n c) ∧ w'.cell? ⟨g, 1, none⟩ = some (.int .i64 (off : Int)) ∧ w'.cell? ⟨g, 3, none⟩ = some (.int .i64 0)) [(0, 4), (1, 4), (2, 4), (3, 0), (4, 4), (5, 4), (6, 4), (7, 4), (8, 4), (10, 4), (11, 4), (12, 4), (9, 0), (13, 0), (14, 4), (15, 4), (16, 4)] (by kernel_rfl) (by kernel_rfl) (fun _ _ _ _ _ h => h) (⟨HG.out.get (j := 0) rfl, HG.out.get (j := 1) rfl, HG.out.get (j := 3) rfl⟩) ?_
      iterate 3 (refine Text.purek rfl rfl (fun K hK => ⟨_, fun w' => by go_simp <;> rfl, ?_⟩); go_simp; refine hK _ ?_; clear hK K)
      (refine Text.heldk rfl rfl (fun K hK => ⟨_, fun w' hw' => by go_simp <;> rfl, ?_⟩); go_simp; refine hK _ ?_; clear hK K)
      iterate 8 (refine Text.purek rfl rfl (fun K hK => ⟨_, fun w' => by go_simp <;> rfl, ?_⟩); go_simp; refine hK _ ?_; clear hK K)
      iterate 2 (refine Text.heldk rfl rfl (fun K hK => ⟨_, fun w' hw' => by go_simp <;> rfl, ?_⟩); go_simp; refine hK _ ?_; clear hK K)
      iterate 3 (refine Text.purek rfl rfl (fun K hK => ⟨_, fun w' => by go_simp <;> rfl, ?_⟩); go_simp; refine hK _ ?_; clear hK K)
      refine Text.done ?_
      go_wp2_with fail
      go_ret2
      exact ⟨⟨_, by rw [HE.out]; rfl⟩, (Below.refl _ _).drew⟩
    · have HE : Hid (endR n ⟨off, last, 0⟩ = 0) := Lib.hid (by unfold endR; rw [if_pos rfl, if_neg hlt])
      have fl : decide ((off : Int) < (n : Int)) = false := decide_eq_false (by omega)
      have fl' : decide (off < n) = false := decide_eq_false hlt
      go_enter Tryz.func42, Tryz.ntmps42
      go_wp2_with fail
      refine Text.wp_region_text (fun w' => w'.cell? ⟨g, 0, none⟩ = some (.slice A n c) ∧ w'.cell? ⟨g, 1, none⟩ = some (.int .i64 (off : Int)) ∧ w'.cell? ⟨g, 3, none⟩ = some (.int .i64 0)) [(0, 4), (1, 4), (2, 4), (3, 0), (4, 4), (5, 4), (6, 4), (7, 4), (8, 4), (10, 4), (11, 4), (12, 4), (9, 0), (13, 0), (14, 4), (15, 4), (16, 4)] (by kernel_rfl) (by kernel_rfl) (fun _ _ _ _ _ h => h) (⟨HG.out.get (j := 0) rfl, HG.out.get (j := 1) rfl, HG.out.get (j := 3) rfl⟩) ?_
      iterate 3 (refine Text.purek rfl rfl (fun K hK => ⟨_, fun w' => by go_simp <;> rfl, ?_⟩); go_simp; refine hK _ ?_; clear hK K)
      (refine Text.heldk rfl rfl (fun K hK => ⟨_, fun w' hw' => by go_simp <;> rfl, ?_⟩); go_simp; refine hK _ ?_; clear hK K)
      iterate 8 (refine Text.purek rfl rfl (fun K hK => ⟨_, fun w' => by go_simp <;> rfl, ?_⟩); go_simp; refine hK _ ?_; clear hK K)
      iterate 2 (refine Text.heldk rfl rfl (fun K hK => ⟨_, fun w' hw' => by go_simp <;> rfl, ?_⟩); go_simp; refine hK _ ?_; clear hK K)
      iterate 3 (refine Text.purek rfl rfl (fun K hK => ⟨_, fun w' => by go_simp <;> rfl, ?_⟩); go_simp; refine hK _ ?_; clear hK K)
      refine Text.done ?_
      go_wp2_with fail
      refine Text.wp_region_text (fun w' => w'.cell? ⟨g, 1, none⟩ = some (.int .i64 (off : Int)) ∧ w'.cell? ⟨g, 3, none⟩ = some (.int .i64 0)) [(0, 4), (1, 4), (2, 4), (4, 4), (5, 4), (6, 4), (3, 0), (8, 4), (7, 0), (9, 4)] (by kernel_rfl) (by kernel_rfl) (fun _ _ _ _ _ h => h) (⟨HG.out.get (j := 1) rfl, HG.out.get (j := 3) rfl⟩) ?_
      iterate 6 (refine Text.purek rfl rfl (fun K hK => ⟨_, fun w' => by go_simp <;> rfl, ?_⟩); go_simp; refine hK _ ?_; clear hK K)
      (refine Text.heldk rfl rfl (fun K hK => ⟨_, fun w' hw' => by go_simp <;> rfl, ?_⟩); go_simp; refine hK _ ?_; clear hK K)
      (refine Text.purek rfl rfl (fun K hK => ⟨_, fun w' => by go_simp <;> rfl, ?_⟩); go_simp; refine hK _ ?_; clear hK K)
      (refine Text.heldk rfl rfl (fun K hK => ⟨_, fun w' hw' => by go_simp <;> rfl, ?_⟩); go_simp; refine hK _ ?_; clear hK K)
      (refine Text.purek rfl rfl (fun K hK => ⟨_, fun w' => by go_simp <;> rfl, ?_⟩); go_simp; refine hK _ ?_; clear hK K)
      refine Text.done ?_
      go_wp2_with fail
      go_ret2
      exact ⟨⟨_, by rw [HE.out]; rfl⟩, (Below.refl _ _).drew.drew⟩
  · have HE : Hid (endR n ⟨off, last, err⟩ = err) := Lib.hid (by unfold endR; rw [if_neg h0])
    have f0 : (err == 0) = false := by rw [beq_eq_false_iff_ne]; exact h0
    clear h0
    go_enter Tryz.func42, Tryz.ntmps42
    go_wp2_with fail
    refine Text.wp_region_text (fun w' => w'.cell? ⟨g, 0, none⟩ = some (.slice A n c) ∧ w'.cell? ⟨g, 1, none⟩ = some (.int .i64 (off : Int)) ∧ w'.cell? ⟨g, 3, none⟩ = some (.int .i64 err)) [(0, 4), (1, 4), (2, 4), (3, 0), (4, 4), (5, 4), (6, 4), (7, 4), (8, 4), (9, 4), (10, 4), (11, 4), (12, 4), (13, 4), (14, 4), (15, 4), (16, 4)] (by kernel_rfl) (by kernel_rfl) (fun _ _ _ _ _ h => h) (⟨HG.out.get (j := 0) rfl, HG.out.get (j := 1) rfl, HG.out.get (j := 3) rfl⟩) ?_
    iterate 3 (refine Text.purek rfl rfl (fun K hK => ⟨_, fun w' => by go_simp <;> rfl, ?_⟩); go_simp; refine hK _ ?_; clear hK K)
    (refine Text.heldk rfl rfl (fun K hK => ⟨_, fun w' hw' => by go_simp <;> rfl, ?_⟩); go_simp; refine hK _ ?_; clear hK K)
    iterate 2 (refine Text.purek rfl rfl (fun K hK => ⟨_, fun w' => by go_simp <;> rfl, ?_⟩); go_simp; refine hK _ ?_; clear hK K)
    iterate 10 (refine Text.skipk (.inr (.inr rfl)) rfl rfl (fun K hK => ?_); go_simp; refine hK _ ?_; clear hK K)
    (refine Text.purek rfl rfl (fun K hK => ⟨_, fun w' => by go_simp <;> rfl, ?_⟩); go_simp; refine hK _ ?_; clear hK K)
    refine Text.done ?_
    go_wp2_with fail
    refine Text.wp_region_text (fun w' => w'.cell? ⟨g, 1, none⟩ = some (.int .i64 (off : Int)) ∧ w'.cell? ⟨g, 3, none⟩ = some (.int .i64 err)) [(0, 4), (1, 4), (2, 4), (4, 4), (5, 4), (6, 4), (3, 0), (8, 4), (7, 0), (9, 4)] (by kernel_rfl) (by kernel_rfl) (fun _ _ _ _ _ h => h) (⟨HG.out.get (j := 1) rfl, HG.out.get (j := 3) rfl⟩) ?_
    iterate 6 (refine Text.purek rfl rfl (fun K hK => ⟨_, fun w' => by go_simp <;> rfl, ?_⟩); go_simp; refine hK _ ?_; clear hK K)
    (refine Text.heldk rfl rfl (fun K hK => ⟨_, fun w' hw' => by go_simp <;> rfl, ?_⟩); go_simp; refine hK _ ?_; clear hK K)
    (refine Text.purek rfl rfl (fun K hK => ⟨_, fun w' => by go_simp <;> rfl, ?_⟩); go_simp; refine hK _ ?_; clear hK K)
    (refine Text.heldk rfl rfl (fun K hK => ⟨_, fun w' hw' => by go_simp <;> rfl, ?_⟩); go_simp; refine hK _ ?_; clear hK K)
    (refine Text.purek rfl rfl (fun K hK => ⟨_, fun w' => by go_simp <;> rfl, ?_⟩); go_simp; refine hK _ ?_; clear hK K)
    refine Text.done ?_
    go_wp2_with fail
    go_ret2
    exact ⟨⟨_, by rw [HE.out]; rfl⟩, (Below.refl _ _).drew.drew⟩
end Go.Proofs.YtheijpjfpaghfaaGreatDoor
