/- The reference's Condemning; IsSafe for a deletion, a forgetting, a proposal. -/
import Derived.Test.YtboglaokdgnpaaaWgm
import Derived.Test.YtboglaokdgnpaaaA31
import Derived.Test.YtboglaokdgnpaaaVnm
import Derived.Test.YtboglaokdgnpaaaWjm
import Derived.Test.YtboglaokdgnpaaaA29
namespace Go.Proofs.Ytboglaokdgnpaaa
open Go Go.RowKit Gf Sha

def condL (c ids : List (List UInt8)) : List (List UInt8) := ids.foldl addS c
def condY (y : Si) (ids : List (List UInt8)) : Si := { y with cond := condL y.cond ids }
theorem condL_step (c l : List (List UInt8)) (s : List UInt8) : condL c (l ++ [s]) = addS (condL c l) s := by
 unfold condL; rw [List.foldl_append]; rfl
theorem condL_len : ∀ (l c : List (List UInt8)), (condL c l).length ≤ c.length + l.length
 | [], c => Nat.le_refl _
 | a :: l, c => by
  have h1 := condL_len l (addS c a)
  have h2 := addS_len c a
  have h3 : condL c (a :: l) = condL (addS c a) l := rfl
  rw [h3, List.length_cons]
  omega
theorem siqZero : (Try.prog.info? 26).map (·.zero) = some (some (.agg siZ.toArray)) := by kernel_rfl
set_option maxRecDepth 100000 in
set_option maxHeartbeats 2000000 in
theorem condemning_any (cx : List Value) (y : Si) (w : World) (hx : rSi w cx y) (A : Option Addr) (n c : Nat) (ids : List (List UInt8)) (h : LS rStr 1 16 w A n c ids) (hbd : y.cond.length + n ≤ 100000) :
  Calls Try.prog 67 #[.agg cx.toArray, .slice A n c] w fun e w' => (∃ cs, e = .returned (.agg cs.toArray) ∧ rSi w' cs (condY y ids)) ∧ Below w.heap.size w w' := by
 obtain ⟨a0, n0, c0, a1, n1, c1, a2, n2, c2, a3, n3, c3, a4, n4, c4, a5, n5, c5, rfl, hq⟩ := hx
 have hn := h.len_le
 have H := Lib.hid h
 have HL := Lib.hid h.1
 have HQ := Lib.hid hq
 have HBD := Lib.hid hbd
 clear h hq hbd
 go_enter Try.func67, Try.ntmps67
 go_wp2_with (first
  | ((with_reducible show OpW 2); refine wpList_box _ rfl 26 (.tmp 0) rfl (siC a0 n0 c0 a1 n1 c1 a2 n2 c2 a3 n3 c3 a4 n4 c4 a5 n5 c5 y.pct) rfl ?_; intro w1 y1 y2 y3; have HB1 := Lib.hid y2; have HS1 := Lib.hid y1; clear y1 y2 y3)
  | ((with_reducible show OpW 4); refine wpList_alloc _ rfl 26 rfl siZ siqZero ?_; intro w2 y1 y2 y3; have HR2 := Lib.hid y1; have HB2 := Lib.hid (below_then HB1.out y2); have HS2 := Lib.hid (HS1.out.kept y2); have HG := Lib.hid HB1.out.size; have HLT := Lib.hid HS1.out.lt; clear y1 y2 y3))
 go_loopw [9] (fun iv wr => ∃ k : Nat, k ≤ n ∧ iv = .int .i64 (k : Int) ∧ Hid (∃ A2 k2 C2, BL wr w.heap.size 26 (siC a0 n0 c0 a1 n1 c1 A2 k2 C2 a3 n3 c3 a4 n4 c4 a5 n5 c5 y.pct) ∧ SiOk wr a0 n0 c0 a1 n1 c1 A2 k2 C2 a3 n3 c3 a4 n4 c4 a5 n5 c5 (condY y (ids.take k))) ∧ Hid (BL wr w1.heap.size 26 siZ) ∧ Hid (Below w.heap.size w wr)) (fun iv _ => n - (intOf iv).toNat)
 case atStart => exact ⟨0, by omega, rfl, Lib.hid ⟨a2, n2, c2, HS2.out, HQ.out.kept HB2.out⟩, HR2, HB2⟩
 case round =>
  obtain ⟨k, hk, rfl, hs', hz, hb⟩ := hrel
  obtain ⟨wx, hwx⟩ : ∃ x, x = wr := ⟨_, rfl⟩
  rw [← hwx] at hs' hz hb ⊢
  clear hwx
  obtain ⟨A2, k2, C2, hsit, hok⟩ := hs'.out
  have HSIT := Lib.hid hsit
  have HOK := Lib.hid hok
  clear hs' hsit hok
  by_cases hlt : k < n
  ·
   obtain ⟨s, g, o, hs, ea, p1⟩ := H.out.str_at hb.out hlt
   have HID := Lib.hid (H.out.str_ok hs)
   have HX := Lib.hid hs
   have HK2 : Hid (k2 ≤ 100000) := Lib.hid (by
    have h1 := HOK.out.cond.1
    have h2 := condL_len (ids.take k) y.cond
    rw [List.length_take] at h2
    have h3 : (condL y.cond (ids.take k)).length = k2 := h1
    have := HBD.out
    omega)
   have HF : Hid (condL y.cond (ids.take (k + 1)) = addS (condL y.cond (ids.take k)) s) := Lib.hid (by rw [take_next HX.out, condL_step])
   subst ea
   clear hs
   have q2 := HSIT.out.get (j := 2) rfl
   go_wp2_with (first
    | (go_at_call 83; refine (radd_any A2 k2 C2 (condL y.cond (ids.take k)) s _ HOK.out.cond HID.out HK2.out).mono ?_; rintro e w3 ⟨A9, c9, rfl, l9, _, b9⟩; have HL9 := Lib.hid l9; have HX3 := Lib.hid b9; have HSIT3 := Lib.hid (HSIT.out.kept b9); clear b9 l9)
    | ((with_reducible show OpN); refine wpList_store1 _ rfl 23 (.tmp 17) (.tmp 16) rfl (strSz _) w.heap.size 2 _ _ (.slice A9 (addS (condL y.cond (ids.take k)) s).length c9) rfl rfl HSIT3.out rfl rfl (by simp) ?_; intro w4 y1 y2 y3; have HSIT4 : Hid (BL w4 w.heap.size 26 (siC a0 n0 c0 a1 n1 c1 A9 (addS (condL y.cond (ids.take k)) s).length c9 a3 n3 c3 a4 n4 c4 a5 n5 c5 y.pct)) := Lib.hid y1; have HK4 := Lib.hid y2; clear y1 y2 y3))
   have HOK3 := Lib.hid (HOK.out.kept HX3.out)
   have HOK4 : Hid (SiOk w4 a0 n0 c0 a1 n1 c1 A9 (addS (condL y.cond (ids.take k)) s).length c9 a3 n3 c3 a4 n4 c4 a5 n5 c5 (condY y (ids.take (k + 1)))) := Lib.hid (by
    have h5 : SiOk w3 a0 n0 c0 a1 n1 c1 A9 (addS (condL y.cond (ids.take k)) s).length c9 a3 n3 c3 a4 n4 c4 a5 n5 c5 (condY y (ids.take (k + 1))) := ⟨HOK3.out.sp, HOK3.out.need, by show LS rStr 1 16 w3 A9 _ c9 (condL y.cond (ids.take (k + 1))); rw [HF.out]; exact HL9.out, HOK3.out.drop, HOK3.out.carr, HOK3.out.held, HOK3.out.pct⟩
    exact h5.put HK4.out HSIT3.out)
   have HZ4 := Lib.hid (HK4.out.bl (hz.out.kept HX3.out) (fun e => by have := HLT.out; omega))
   have HB4 : Hid (Below w.heap.size w w4) := Lib.hid (((Kp.of_below (S := fun _ => False) (below_thenB hb.out hb.out.size HX3.out)).after HK4.out (fun i hi e => by omega)).below (Nat.le_refl _) (fun _ h => h.elim))
   go_roundw
   case rel => exact ⟨k + 1, by omega, by go_num, Lib.hid ⟨_, _, _, HSIT4.out, HOK4.out⟩, HZ4, HB4⟩
   case measure => simp [intOf]; omega
  ·
   obtain rfl : k = n := by omega
   rw [take_end HL.out] at HOK
   go_wp2_with (first
    | ((with_reducible show OpW 19); refine wpList_loadv _ rfl 26 (.tmp 2) rfl 7 (by kernel_rfl) w.heap.size 0 _ rfl (BL.all HSIT.out) rfl ?_)
    | ((with_reducible show OpN); refine wpList_storev _ rfl 26 (.tmp 4) (.tmp 19) rfl 7 (by kernel_rfl) w1.heap.size 0 _ siZ (siC a0 n0 c0 a1 n1 c1 A2 k2 C2 a3 n3 c3 a4 n4 c4 a5 n5 c5 y.pct) rfl rfl hz.out rfl (one_si _ _ _ _ _ _ _ _ _ _ _ _ _ _ _ _ _ _ _) (by decide) ?_; intro w3 y1 y2 y3; have HT3 : Hid (BL w3 w1.heap.size 26 (siC a0 n0 c0 a1 n1 c1 A2 k2 C2 a3 n3 c3 a4 n4 c4 a5 n5 c5 y.pct)) := Lib.hid y1; have HK3 := Lib.hid y2; clear y1 y2 y3))
   (try simp only [Exit.inBlock, Exit.then])
   refine bodyPost_ret (results_at w3 Try.results67 (n := 7) (by kernel_rfl) (g := w1.heap.size) (o := 0) rfl (ms := siC a0 n0 c0 a1 n1 c1 A2 k2 C2 a3 n3 c3 a4 n4 c4 a5 n5 c5 y.pct) (BL.all HT3.out) rfl) rfl ⟨⟨_, rfl, ?_⟩, ((Kp.of_below (S := fun _ => False) hb.out).after HK3.out (fun i hi e => by have := HG.out; omega)).below (Nat.le_refl _) (fun _ h => h.elim)⟩
   exact ⟨_, _, _, _, _, _, _, _, _, _, _, _, _, _, _, _, _, _, rfl, HOK.out.put HK3.out hz.out⟩
/-- Is a step safe, as the reference says? -/
def fg2 (y : Si) (id : List UInt8) : Bool := (findS y id).isSome && hasB y.drop id
def rw2 (y : Si) (r : Rf) : Bool := y.sp.any fun s => liveB y s.id && s.refs.any fun q => decide (q = r)
def lv2 (y : Si) (id : List UInt8) : Bool := (findS y id).isSome && liveB y id
def rSafe (y : Si) (s : Stp) : Bool :=
 if s.kind = 3 then heldB y s.pc && hasB y.drop s.pc.1
 else if s.kind = 4 then s.sts.all (fg2 y)
 else if s.kind = 1 then s.refs.all (rw2 y)
 else if s.kind = 2 then s.sts.all (lv2 y) && decide ((uncov (condY y s.sts)).length = (uncov y).length)
 else false
set_option maxRecDepth 100000 in
set_option maxHeartbeats 2000000 in
theorem issafe3 (cx cs : List Value) (y : Si) (t : Stp) (w : World) (hx : rSi w cx y) (h : rStp w cs t) (hk : t.kind = 3) :
  Calls Try.prog 30 #[.agg cx.toArray, .agg cs.toArray] w fun e w' => e = .returned (.bool (rSafe y t)) ∧ Below w.heap.size w w' := by
 obtain ⟨a0, n0, c0, a1, n1, c1, a2, n2, c2, a3, n3, c3, a4, n4, c4, a5, n5, c5, rfl, hq⟩ := hx
 obtain ⟨A0, m0, k0, A1, m1, k1, rfl, h0, h1, _⟩ := h
 have HQ := Lib.hid hq
 have hR : rSafe y t = (heldB y t.pc && hasB y.drop t.pc.1) := by rw [rSafe, if_pos hk]
 have f3 : (t.kind == 3) = true := by simp [hk]
 clear h0 h1 hq hk
 cases h1 : heldB y t.pc with
 | false =>
  have HR : Hid (rSafe y t = false) := Lib.hid (by rw [hR, h1]; rfl)
  clear hR
  go_enter Try.func30, Try.ntmps30
  go_wp2_with (first
   | ((with_reducible show OpW 2); refine wpList_box _ rfl 26 (.tmp 0) rfl (siC a0 n0 c0 a1 n1 c1 a2 n2 c2 a3 n3 c3 a4 n4 c4 a5 n5 c5 y.pct) rfl ?_; intro w1 y1 y2 y3; have HB1 := Lib.hid y2; have HS1 := Lib.hid y1; clear y1 y2 y3)
   | ((with_reducible show OpW 3); refine wpList_box _ rfl 42 (.tmp 1) rfl (stC t A0 m0 k0 A1 m1 k1) rfl ?_; intro w2 y1 y2 y3; have HT2 := Lib.hid y1; have HX2 := Lib.hid y2; have HB2 := Lib.hid (below_then HB1.out y2); have HS2 := Lib.hid (HS1.out.kept y2); have q0 := HT2.out.get (j := 0) rfl; have q1 := HT2.out.get (j := 1) rfl; have q4 := HT2.out.get (j := 4) rfl; clear y1 y2 y3)
   | ((with_reducible show OpW 25); refine wpList_loadv _ rfl 26 (.tmp 2) rfl 7 (by kernel_rfl) w.heap.size 0 _ rfl (BL.all HS2.out) rfl ?_)
   | ((with_reducible show OpW 27); refine wpList_loadv _ rfl 39 (.tmp 26) rfl 2 (by kernel_rfl) w1.heap.size 2 (pcL t.pc) rfl (at_two (BL.all HT2.out)) rfl ?_)
   | (go_at_call 64; refine (isheld_any _ y t.pc _ (show rSi w2 _ _ from ⟨_, _, _, _, _, _, _, _, _, _, _, _, _, _, _, _, _, _, rfl, HQ.out.kept HB2.out⟩)).mono ?_; rintro e w3 ⟨rfl, b3⟩; rw [h1]; have HB3 := Lib.hid (below_then HB2.out b3); have s3 := (HS2.out.kept b3).get (j := 3) rfl; have t2 := (HT2.out.kept b3).get (j := 2) rfl; clear b3)
   | (go_at_call 43; refine (has_any a3 n3 c3 y.drop t.pc.1 _ (HQ.out.drop.kept stay_str HB3.out)).mono ?_; rintro e wh ⟨rfl, hw⟩; rw [hw]; clear hw wh))
  go_ret
  exact ⟨ret_bool HR.out.symm, HB3.out⟩
 | true =>
  have HR : Hid (rSafe y t = hasB y.drop t.pc.1) := Lib.hid (by rw [hR, h1]; rfl)
  clear hR
  go_enter Try.func30, Try.ntmps30
  go_wp2_with (first
   | ((with_reducible show OpW 2); refine wpList_box _ rfl 26 (.tmp 0) rfl (siC a0 n0 c0 a1 n1 c1 a2 n2 c2 a3 n3 c3 a4 n4 c4 a5 n5 c5 y.pct) rfl ?_; intro w1 y1 y2 y3; have HB1 := Lib.hid y2; have HS1 := Lib.hid y1; clear y1 y2 y3)
   | ((with_reducible show OpW 3); refine wpList_box _ rfl 42 (.tmp 1) rfl (stC t A0 m0 k0 A1 m1 k1) rfl ?_; intro w2 y1 y2 y3; have HT2 := Lib.hid y1; have HX2 := Lib.hid y2; have HB2 := Lib.hid (below_then HB1.out y2); have HS2 := Lib.hid (HS1.out.kept y2); have q0 := HT2.out.get (j := 0) rfl; have q1 := HT2.out.get (j := 1) rfl; have q4 := HT2.out.get (j := 4) rfl; clear y1 y2 y3)
   | ((with_reducible show OpW 25); refine wpList_loadv _ rfl 26 (.tmp 2) rfl 7 (by kernel_rfl) w.heap.size 0 _ rfl (BL.all HS2.out) rfl ?_)
   | ((with_reducible show OpW 27); refine wpList_loadv _ rfl 39 (.tmp 26) rfl 2 (by kernel_rfl) w1.heap.size 2 (pcL t.pc) rfl (at_two (BL.all HT2.out)) rfl ?_)
   | (go_at_call 64; refine (isheld_any _ y t.pc _ (show rSi w2 _ _ from ⟨_, _, _, _, _, _, _, _, _, _, _, _, _, _, _, _, _, _, rfl, HQ.out.kept HB2.out⟩)).mono ?_; rintro e w3 ⟨rfl, b3⟩; rw [h1]; have HB3 := Lib.hid (below_then HB2.out b3); have s3 := (HS2.out.kept b3).get (j := 3) rfl; have t2 := (HT2.out.kept b3).get (j := 2) rfl; clear b3)
   | (go_at_call 43; refine (has_any a3 n3 c3 y.drop t.pc.1 _ (HQ.out.drop.kept stay_str HB3.out)).mono ?_; rintro e wh ⟨rfl, hw⟩; rw [hw]; clear hw wh))
  go_ret
  exact ⟨ret_bool HR.out.symm, HB3.out⟩
end Go.Proofs.Ytboglaokdgnpaaa
