/- Several texts in one: Ye. -/
import Derived.Test.YtboglaokdgnpaaaA31
import Derived.Test.YtboglaokdgnpaaaB6
import Derived.Test.YtboglaokdgnpaaaA15
import Derived.Test.YtboglaokdgnpaaaA8
/- law49.from; the reference's Same on two readings of one situation. -/
namespace Go.Proofs.Ytboglaokdgnpaaa
open Go Go.RowKit Gf Sha

theorem frZero : (Try.prog.info? 26).map (·.zero) = some (some (.agg siZ.toArray)) := by kernel_rfl
theorem bldFrom (b0 : Option Addr) (k0 d0 : Nat) (b1 : Option Addr) (k1 d1 : Nat) (b2 : Option Addr) (k2 d2 : Nat) (b3 : Option Addr) (k3 d3 : Nat) (b4 : Option Addr) (k4 d4 : Nat) (b5 : Option Addr) (k5 d5 : Nat) (p : Int) (w : World) :
  (Instr.build 26 #[(0, .slice b0 k0 d0), (1, .slice b1 k1 d1), (2, .slice b2 k2 d2), (3, .slice b3 k3 d3), (4, .slice b4 k4 d4), (5, .slice b5 k5 d5), (6, .int .i64 p)]).run Try.prog w = .ok (.agg (siC b0 k0 d0 b1 k1 d1 b2 k2 d2 b3 k3 d3 b4 k4 d4 b5 k5 d5 p).toArray) w := by kernel_rfl
set_option maxRecDepth 100000 in
set_option maxHeartbeats 1000000 in
theorem from_any (a0 : Option Addr) (n0 c0 : Nat) (a1 : Option Addr) (n1 c1 : Nat) (a2 : Option Addr) (n2 c2 : Nat) (a3 : Option Addr) (n3 c3 : Nat) (a4 : Option Addr) (n4 c4 : Nat) (a5 : Option Addr) (n5 c5 : Nat) (p : Int) (w : World) :
  Calls Try.prog 21 #[.agg (siC a0 n0 c0 a1 n1 c1 a2 n2 c2 a3 n3 c3 a4 n4 c4 a5 n5 c5 p).toArray] w fun e w' => e = .returned (.agg (siC a0 n0 c0 a1 n1 c1 a2 n2 c2 a3 n3 c3 a4 n4 c4 a5 n5 c5 p).toArray) ∧ Below w.heap.size w w' := by
 go_enter Try.func21, Try.ntmps21
 go_wp2_with (first
  | ((with_reducible show OpW 1); refine wpList_box _ rfl 33 (.tmp 0) rfl (siC a0 n0 c0 a1 n1 c1 a2 n2 c2 a3 n3 c3 a4 n4 c4 a5 n5 c5 p) rfl ?_; intro w1 a1 a2 a3; have HB1 := Lib.hid a2; have HS1 := Lib.hid a1; clear a1 a2 a3)
  | ((with_reducible show OpW 2); refine wpList_alloc _ rfl 26 rfl siZ frZero ?_; intro w2 a1 a2 a3; have HR2 := Lib.hid a1; have HB2 := Lib.hid (below_then HB1.out a2); have hs := HS1.out.kept a2; have q0 := hs.get (j := 0) rfl; have q1 := hs.get (j := 1) rfl; have q2 := hs.get (j := 2) rfl; have q3 := hs.get (j := 3) rfl; have q4 := hs.get (j := 4) rfl; have q5 := hs.get (j := 5) rfl; have q6 := hs.get (j := 6) rfl; have HG := Lib.hid HB1.out.size; clear a1 a2 a3 hs)
  | ((with_reducible show OpW 17); refine wpList_build _ rfl 26 #[(0, .tmp 4), (1, .tmp 6), (2, .tmp 8), (3, .tmp 10), (4, .tmp 12), (5, .tmp 14), (6, .tmp 16)] rfl #[(0, .slice a0 n0 c0), (1, .slice a1 n1 c1), (2, .slice a2 n2 c2), (3, .slice a3 n3 c3), (4, .slice a4 n4 c4), (5, .slice a5 n5 c5), (6, .int .i64 p)] (by rw [List.map_toArray]; rfl) (.agg (siC a0 n0 c0 a1 n1 c1 a2 n2 c2 a3 n3 c3 a4 n4 c4 a5 n5 c5 p).toArray) (bldFrom _ _ _ _ _ _ _ _ _ _ _ _ _ _ _ _ _ _ _ _) ?_)
  | ((with_reducible show OpN); refine wpList_storev _ rfl 26 (.tmp 2) (.tmp 17) rfl 7 (by kernel_rfl) w1.heap.size 0 _ siZ (siC a0 n0 c0 a1 n1 c1 a2 n2 c2 a3 n3 c3 a4 n4 c4 a5 n5 c5 p) rfl rfl HR2.out rfl (one_si _ _ _ _ _ _ _ _ _ _ _ _ _ _ _ _ _ _ _) (by decide) ?_; intro w3 y1 y2 y3; have HT3 : Hid (BL w3 w1.heap.size 26 (siC a0 n0 c0 a1 n1 c1 a2 n2 c2 a3 n3 c3 a4 n4 c4 a5 n5 c5 p)) := Lib.hid y1; have HK3 := Lib.hid y2; clear y1 y2 y3))
 (try simp only [Exit.inBlock, Exit.then])
 exact bodyPost_ret (results_at w3 Try.results21 (n := 7) (by kernel_rfl) (g := w1.heap.size) (o := 0) rfl (ms := siC a0 n0 c0 a1 n1 c1 a2 n2 c2 a3 n3 c3 a4 n4 c4 a5 n5 c5 p) (BL.all HT3.out) rfl) rfl ⟨rfl, ((Kp.of_below (S := fun _ => False) HB2.out).after HK3.out (fun i hi e => by have := HG.out; omega)).below (Nat.le_refl _) (fun _ h => h.elim)⟩
theorem ssp_refl (a : Sp) : sspB a a = true := by simp [sspB]
set_option maxRecDepth 100000 in
set_option maxHeartbeats 4000000 in
theorem rsame_refl (ca cb : List Value) (x : Si) (w : World) (ha : rSi w ca x) (hb : rSi w cb x) :
  Calls Try.prog 20 #[.agg ca.toArray, .agg cb.toArray] w fun e w' => e = .returned (.bool true) ∧ Below w.heap.size w w' := by
 obtain ⟨a0, n0, c0, a1, n1, c1, a2, n2, c2, a3, n3, c3, a4, n4, c4, a5, n5, c5, rfl, hq⟩ := ha
 obtain ⟨b0, k0, d0, b1, k1, d1, b2, k2, d2, b3, k3, d3, b4, k4, d4, b5, k5, d5, rfl, hh⟩ := hb
 obtain rfl : n0 = k0 := hq.sp.1.symm.trans hh.sp.1
 obtain rfl : n5 = k5 := hq.held.1.symm.trans hh.held.1
 have H := Lib.hid hq
 have HH := Lib.hid hh
 have hn0 := hq.sp.len_le
 have hn5 := hq.held.len_le
 have HL0 := Lib.hid hq.sp.1
 have HL5 := Lib.hid hq.held.1
 have f0 : ((n0 : Int) != (n0 : Int)) = false := by simp
 have f5 : ((n5 : Int) != (n5 : Int)) = false := by simp
 have f6 : (x.pct != x.pct) = false := by simp
 clear hq hh
 go_enter Try.func20, Try.ntmps20
 go_wp2_with (first
  | ((with_reducible show OpW 2); refine wpList_box _ rfl 26 (.tmp 0) rfl (siC a0 n0 c0 a1 n1 c1 a2 n2 c2 a3 n3 c3 a4 n4 c4 a5 n5 c5 x.pct) rfl ?_; intro w1 y1 y2 y3; have HB1 := Lib.hid y2; have HS1 := Lib.hid y1; clear y1 y2 y3)
  | ((with_reducible show OpW 3); refine wpList_box _ rfl 26 (.tmp 1) rfl (siC b0 n0 d0 b1 k1 d1 b2 k2 d2 b3 k3 d3 b4 k4 d4 b5 n5 d5 x.pct) rfl ?_; intro w2 y1 y2 y3; have HT2 := Lib.hid y1; have HB2 := Lib.hid (below_then HB1.out y2); have HS2 := Lib.hid (HS1.out.kept y2); have p0 := HS2.out.get (j := 0) rfl; have p5 := HS2.out.get (j := 5) rfl; have p6 := HS2.out.get (j := 6) rfl; have q0 := HT2.out.get (j := 0) rfl; have q5 := HT2.out.get (j := 5) rfl; have q6 := HT2.out.get (j := 6) rfl; clear y1 y2 y3)
  | fail)
 go_loopw [33] (fun iv wr => ∃ k : Nat, k ≤ n0 ∧ iv = .int .i64 (k : Int) ∧ Hid (Below w2.heap.size w2 wr)) (fun iv _ => n0 - (intOf iv).toNat)
 case atStart => exact ⟨0, by omega, rfl, Lib.hid (Below.refl _ _)⟩
 case round =>
  obtain ⟨k, hk, rfl, hb⟩ := hrel
  obtain ⟨wx, hwx⟩ : ∃ x, x = wr := ⟨_, rfl⟩
  rw [← hwx] at hb ⊢
  clear hwx
  have HBx := Lib.hid (below_thenB HB2.out HB2.out.size hb.out)
  have HSx := Lib.hid (HS2.out.kept hb.out)
  have HTx := Lib.hid (HT2.out.kept hb.out)
  by_cases hlt : k < n0
  ·
   obtain ⟨s, g, o, cs, hs, ea, hat, hr⟩ := H.out.sp.at_ stay_sp HBx.out hlt
   obtain ⟨s', g', o', cs', hs', eb, hat', hr'⟩ := HH.out.sp.at_ stay_sp HBx.out hlt
   obtain rfl : s = s' := by rw [hs] at hs'; exact Option.some.inj hs'
   have HA := Lib.hid hat
   have HA' := Lib.hid hat'
   have HR := Lib.hid hr
   have HR' := Lib.hid hr'
   have HN := Lib.hid (len_sp cs s hr)
   have HN' := Lib.hid (len_sp cs' s hr')
   subst ea
   subst eb
   clear hs hs' hat hat' hr hr'
   go_wp2_with fail
   refine Text.wp_region_text (fun w' => Below wx.heap.size wx w' ∧ w'.cell? ⟨w.heap.size, 0, none⟩ = some (.slice (some ⟨g, o, none⟩) n0 c0) ∧ w'.cell? ⟨w1.heap.size, 0, none⟩ = some (.slice (some ⟨g', o', none⟩) n0 d0)) [(0, 4), (2, 4), (5, 4), (7, 4), (1, 0), (3, 4), (4, 0), (6, 0), (8, 4), (9, 0), (10, 2), (11, 4)] (by kernel_rfl) (by kernel_rfl) (fun _ _ _ _ _ h => h) (⟨(Below.refl _ _).drew, HSx.out.get (j := 0) rfl, HTx.out.get (j := 0) rfl⟩) ?_
   iterate 4 (refine Text.purek rfl rfl (fun K hK => ⟨_, fun w' => by go_simp <;> rfl, ?_⟩); go_simp; refine hK _ ?_; clear hK K)
   (refine Text.heldk rfl rfl (fun K hK => ⟨_, fun w' hw' => by go_simp <;> rfl, ?_⟩); go_simp; refine hK _ ?_; clear hK K)
   (refine Text.purek rfl rfl (fun K hK => ⟨_, fun w' => by go_simp <;> rfl, ?_⟩); go_simp; refine hK _ ?_; clear hK K)
   refine Text.heldk rfl rfl (fun K hK => ?_)
   refine ⟨_, fun w' hw' => exec_loadv 61 (.tmp 39) rfl 6 (by kernel_rfl) g (o + k * 6) cs (by go_simp) (HA.out.kept hw'.1) HN.out, ?_⟩
   go_simp
   refine hK _ ?_
   clear hK K
   (refine Text.heldk rfl rfl (fun K hK => ⟨_, fun w' hw' => by go_simp <;> rfl, ?_⟩); go_simp; refine hK _ ?_; clear hK K)
   (refine Text.purek rfl rfl (fun K hK => ⟨_, fun w' => by go_simp <;> rfl, ?_⟩); go_simp; refine hK _ ?_; clear hK K)
   refine Text.heldk rfl rfl (fun K hK => ?_)
   refine ⟨_, fun w' hw' => exec_loadv 61 (.tmp 44) rfl 6 (by kernel_rfl) g' (o' + k * 6) cs' (by go_simp) (HA'.out.kept hw'.1) HN'.out, ?_⟩
   go_simp
   refine hK _ ?_
   clear hK K
   refine Text.eff rfl rfl (fun K hK => ?_)
   go_simp
   refine (rsamesp_any cs cs' s s _ (stay_sp _ _ _ _ HR.out (Below.refl _ _).drew) (stay_sp _ _ _ _ HR'.out (Below.refl _ _).drew)).mono ?_
   rintro e w5 ⟨rfl, bl⟩
   rw [ssp_refl]
   have HX5 : Hid (Below wx.heap.size wx w5) := Lib.hid (below_ofDrew bl)
   refine hK _ _ ⟨HX5.out, (HSx.out.kept HX5.out).get (j := 0) rfl, (HTx.out.kept HX5.out).get (j := 0) rfl⟩ ?_
   clear hK K bl
   (refine Text.purek rfl rfl (fun K hK => ⟨_, fun w' => by go_simp <;> rfl, ?_⟩); go_simp; refine hK _ ?_; clear hK K)
   refine Text.done ?_
   go_wp2_with fail
   go_roundw
   case rel => exact ⟨k + 1, by omega, by go_num, Lib.hid (below_thenB hb.out hb.out.size HX5.out)⟩
   case measure => simp [intOf]; omega
  ·
   obtain rfl : k = n0 := by omega
   have hb2 := hb
   have p5 := HSx.out.get (j := 5) rfl
   clear hb
   go_wp2_with fail
   go_loopw [52] (fun iv wr => ∃ k : Nat, k ≤ n5 ∧ iv = .int .i64 (k : Int) ∧ Hid (Below w2.heap.size w2 wr)) (fun iv _ => n5 - (intOf iv).toNat)
   case atStart => exact ⟨0, by omega, rfl, hb2⟩
   case round =>
    obtain ⟨j, hj, rfl, hb⟩ := hrel
    obtain ⟨wy, hwy⟩ : ∃ x, x = wr := ⟨_, rfl⟩
    rw [← hwy] at hb ⊢
    clear hwy
    have HBy := Lib.hid (below_thenB HB2.out HB2.out.size hb.out)
    have HSy := Lib.hid (HS2.out.kept hb.out)
    have HTy := Lib.hid (HT2.out.kept hb.out)
    by_cases hlt : j < n5
    ·
     obtain ⟨p, g, o, cs, hs, ea, hat, rfl, _⟩ := H.out.held.at_ stay_pc HBy.out hlt
     obtain ⟨p', g', o', cs', hs', eb, hat', rfl, _⟩ := HH.out.held.at_ stay_pc HBy.out hlt
     obtain rfl : p = p' := by rw [hs] at hs'; exact Option.some.inj hs'
     have HA := Lib.hid hat
     have HA' := Lib.hid hat'
     have er : ∀ w, (Op.equalIn 10000 39 (.agg (pcL p).toArray) (.agg (pcL p).toArray)).run Try.prog w = .ok true w := fun w => by rw [eqIn_pc, decide_eq_true rfl]
     subst ea
     subst eb
     clear hs hs' hat hat'
     go_wp2_with fail
     refine Text.wp_region_text (fun w' => Below wy.heap.size wy w' ∧ w'.cell? ⟨w.heap.size, 5, none⟩ = some (.slice (some ⟨g, o, none⟩) n5 c5) ∧ w'.cell? ⟨w1.heap.size, 5, none⟩ = some (.slice (some ⟨g', o', none⟩) n5 d5)) [(0, 4), (2, 4), (5, 4), (7, 4), (1, 0), (3, 4), (4, 0), (6, 0), (8, 4), (9, 0), (10, 4)] (by kernel_rfl) (by kernel_rfl) (fun _ _ _ _ _ h => h) (⟨(Below.refl _ _).drew, HSy.out.get (j := 5) rfl, HTy.out.get (j := 5) rfl⟩) ?_
     iterate 4 (refine Text.purek rfl rfl (fun K hK => ⟨_, fun w' => by go_simp <;> rfl, ?_⟩); go_simp; refine hK _ ?_; clear hK K)
     (refine Text.heldk rfl rfl (fun K hK => ⟨_, fun w' hw' => by go_simp <;> rfl, ?_⟩); go_simp; refine hK _ ?_; clear hK K)
     (refine Text.purek rfl rfl (fun K hK => ⟨_, fun w' => by go_simp <;> rfl, ?_⟩); go_simp; refine hK _ ?_; clear hK K)
     refine Text.heldk rfl rfl (fun K hK => ?_)
     refine ⟨_, fun w' hw' => exec_loadv 39 (.tmp 58) rfl 2 (by kernel_rfl) g (o + j * 2) (pcL p) (by go_simp) (HA.out.kept hw'.1) rfl, ?_⟩
     go_simp
     refine hK _ ?_
     clear hK K
     (refine Text.heldk rfl rfl (fun K hK => ⟨_, fun w' hw' => by go_simp <;> rfl, ?_⟩); go_simp; refine hK _ ?_; clear hK K)
     (refine Text.purek rfl rfl (fun K hK => ⟨_, fun w' => by go_simp <;> rfl, ?_⟩); go_simp; refine hK _ ?_; clear hK K)
     refine Text.heldk rfl rfl (fun K hK => ?_)
     refine ⟨_, fun w' hw' => exec_loadv 39 (.tmp 63) rfl 2 (by kernel_rfl) g' (o' + j * 2) (pcL p) (by go_simp) (HA'.out.kept hw'.1) rfl, ?_⟩
     go_simp
     refine hK _ ?_
     clear hK K
     (refine Text.purek rfl rfl (fun K hK => ⟨_, fun w' => by go_simp <;> rfl, ?_⟩); go_simp; refine hK _ ?_; clear hK K)
     refine Text.done ?_
     go_wp2_with fail
     go_roundw
     case rel => exact ⟨j + 1, by omega, by go_num, Lib.hid (below_thenB hb.out hb.out.size (Below.refl _ _).drew)⟩
     case measure => simp [intOf]; omega
    ·
     obtain rfl : j = n5 := by omega
     have p1 := HSy.out.get (j := 1) rfl
     have q1 := HTy.out.get (j := 1) rfl
     go_wp2_with (first
      | (go_at_call 48; (with_reducible show Calls _ _ #[.slice a1 n1 c1, _] _ _); refine (rstrings_any _ _ _ x.need _ _ _ x.need _ (H.out.need.kept stay_str HBy.out) (HH.out.need.kept stay_str HBy.out)).mono ?_; rintro e w3 ⟨rfl, bl⟩; rw [decide_eq_true rfl]; have HB3 := Lib.hid (below_thenB HBy.out HBy.out.size bl); have HS3 := Lib.hid (HSy.out.kept bl); have HT3 := Lib.hid (HTy.out.kept bl); have p2 := HS3.out.get (j := 2) rfl; have q2 := HT3.out.get (j := 2) rfl; clear bl)
      | (go_at_call 48; (with_reducible show Calls _ _ #[.slice a2 n2 c2, _] _ _); refine (rstrings_any _ _ _ x.cond _ _ _ x.cond _ (H.out.cond.kept stay_str HB3.out) (HH.out.cond.kept stay_str HB3.out)).mono ?_; rintro e w4 ⟨rfl, bl⟩; rw [decide_eq_true rfl]; have HB4 := Lib.hid (below_thenB HB3.out HB3.out.size bl); have HS4 := Lib.hid (HS3.out.kept bl); have HT4 := Lib.hid (HT3.out.kept bl); have p3 := HS4.out.get (j := 3) rfl; have q3 := HT4.out.get (j := 3) rfl; clear bl)
      | (go_at_call 48; (with_reducible show Calls _ _ #[.slice a3 n3 c3, _] _ _); refine (rstrings_any _ _ _ x.drop _ _ _ x.drop _ (H.out.drop.kept stay_str HB4.out) (HH.out.drop.kept stay_str HB4.out)).mono ?_; rintro e w5 ⟨rfl, bl⟩; rw [decide_eq_true rfl]; have HB5 := Lib.hid (below_thenB HB4.out HB4.out.size bl); have HS5 := Lib.hid (HS4.out.kept bl); have HT5 := Lib.hid (HT4.out.kept bl); have p4 := HS5.out.get (j := 4) rfl; have q4 := HT5.out.get (j := 4) rfl; clear bl)
      | (go_at_call 48; (with_reducible show Calls _ _ #[.slice a4 n4 c4, _] _ _); refine (rstrings_any _ _ _ x.carr _ _ _ x.carr _ (H.out.carr.kept stay_str HB5.out) (HH.out.carr.kept stay_str HB5.out)).mono ?_; rintro e w6 ⟨rfl, bl⟩; rw [decide_eq_true rfl]; have HB6 := Lib.hid (below_thenB HB5.out HB5.out.size bl); have HS6 := Lib.hid (HS5.out.kept bl); have HT6 := Lib.hid (HT5.out.kept bl); have p5 := HS6.out.get (j := 5) rfl; have q5 := HT6.out.get (j := 5) rfl; clear bl)
      | fail)
     go_ret
     exact ⟨rfl, HB6.out⟩
end Go.Proofs.Ytboglaokdgnpaaa
