/- Several texts in one: Sl, Smm. -/
import Derived.Test.YtboglaokdgnpaaaA19
/- Uncovered, Unneeded, Sparse of the program. -/
namespace Go.Proofs.Ytboglaokdgnpaaa
open Go Go.RowKit Gf Sha

theorem plF_isSome {l : List Sp} {s : Sp} (h : s ∈ l) : (plF l s.id).isSome = true := by
 unfold plF
 rw [List.findIdx?_isSome]
 exact List.any_eq_true.2 ⟨s, h, by simp⟩
theorem st0_live {x : Si} {s : Sp} (h : s ∈ x.sp) : liveT (st0 x) s.id = liveB x s.id := by
 show ((plF x.sp s.id).isSome && (!hasB x.cond s.id && !hasB x.drop s.id)) = _
 rw [plF_isSome h]; rfl
theorem cnt_pos (l : List Rf) (n : List UInt8) : decide (0 < cntN l n) = l.any fun r => r.1 == n := by
 unfold cntN
 cases h : l.any fun r => r.1 == n with
 | true =>
  obtain ⟨r, hr, he⟩ := List.any_eq_true.1 h
  have hm : r ∈ l.filter fun r : Rf => r.1 == n := List.mem_filter.2 ⟨hr, by simpa using he⟩
  have := List.length_pos_of_mem hm
  exact decide_eq_true (by omega)
 | false =>
  have : (l.filter fun r => r.1 == n) = [] := List.filter_eq_nil_iff.2 (fun r hr => by
   have := List.any_eq_false.1 h r hr
   simpa using this)
  rw [this]; rfl
theorem any_flatMap' {α β : Type} (f : α → List β) (p : β → Bool) (l : List α) : (l.flatMap f).any p = l.any fun a => (f a).any p := by
 induction l with
 | nil => rfl
 | cons a l ih => simp [List.flatMap_cons, List.any_append, ih]
theorem any_filter' {α : Type} (q p : α → Bool) (l : List α) : (l.filter q).any p = l.any fun a => q a && p a := by
 induction l with
 | nil => rfl
 | cons a l ih =>
  by_cases h : q a = true
  ·
   simp [List.filter_cons_of_pos h, h, ih]
  ·
   simp [List.filter_cons_of_neg h, h, ih]
theorem st0_cov (x : Si) (n : List UInt8) : covT (st0 x) n = coverB x n := by
 show decide (0 < cntN (liveRefs x x.sp) n) = _
 rw [cnt_pos, liveRefs, any_flatMap', any_filter']; rfl

/-- A list of strings with no error, or none with an error. -/
def TStr (ok : Bool) (L : List (List UInt8)) (w : World) (e : Ending) (w' : World) : Prop :=
 if ok then ∃ A c, e = .returned (.tuple #[.slice A L.length c, .int .i64 0]) ∧ LS rStr 1 16 w' A L.length c L ∧ Below w.heap.size w w'
 else e = .returned (.tuple #[.slice none 0 0, .int .i64 1]) ∧ Below w.heap.size w w'

set_option maxRecDepth 100000 in
set_option maxHeartbeats 4000000 in
theorem uncovered_any (a0 : Option Addr) (n0 c0 : Nat) (a1 : Option Addr) (n1 c1 : Nat) (a2 : Option Addr) (n2 c2 : Nat) (a3 : Option Addr) (n3 c3 : Nat) (a4 : Option Addr) (n4 c4 : Nat) (a5 : Option Addr) (n5 c5 : Nat) (x : Si) (w : World) (hq : SiOk w a0 n0 c0 a1 n1 c1 a2 n2 c2 a3 n3 c3 a4 n4 c4 a5 n5 c5 x) (hbig : x.sp.length ≤ 1000) :
  Calls Try.prog 31 #[.agg (siC a0 n0 c0 a1 n1 c1 a2 n2 c2 a3 n3 c3 a4 n4 c4 a5 n5 c5 x.pct).toArray] w (TStr (siB x) (uncov x) w) := by
 have hn := hq.need.len_le
 have H := Lib.hid hq
 have HL := Lib.hid hq.need.1
 have HBG := Lib.hid hbig
 clear hq hbig
 cases hv : siB x with
 | false =>
  go_enter Try.func31, Try.ntmps31
  go_wp2_with (first
   | ((with_reducible show OpW 1); refine wpList_box _ rfl 33 (.tmp 0) rfl (siC a0 n0 c0 a1 n1 c1 a2 n2 c2 a3 n3 c3 a4 n4 c4 a5 n5 c5 x.pct) rfl ?_; intro w1 a1 a2 a3; have HB1 := Lib.hid a2; have HS1 := Lib.hid a1; clear a1 a2 a3)
   | ((with_reducible show OpW 10); refine wpList_loadv _ rfl 33 (.tmp 1) rfl 7 (by kernel_rfl) w.heap.size 0 _ rfl (BL.all HS1.out) rfl ?_)
   | (go_at_call 38; refine (read_any a0 n0 c0 a1 n1 c1 a2 n2 c2 a3 n3 c3 a4 n4 c4 a5 n5 c5 x _ (H.out.kept HB1.out) HBG.out).mono ?_; unfold ReadR; rw [hv]; (simp only [Bool.false_eq_true, if_false]); rintro e w3 ⟨rfl, b3⟩; have HB3 := Lib.hid (below_then HB1.out b3); clear b3))
  go_ret2
  exact ⟨rfl, HB3.out⟩
 | true =>
  go_enter Try.func31, Try.ntmps31
  go_wp2_with (first
   | ((with_reducible show OpW 1); refine wpList_box _ rfl 33 (.tmp 0) rfl (siC a0 n0 c0 a1 n1 c1 a2 n2 c2 a3 n3 c3 a4 n4 c4 a5 n5 c5 x.pct) rfl ?_; intro w1 a1 a2 a3; have HB1 := Lib.hid a2; have HS1 := Lib.hid a1; clear a1 a2 a3)
   | ((with_reducible show OpW 10); refine wpList_loadv _ rfl 33 (.tmp 1) rfl 7 (by kernel_rfl) w.heap.size 0 _ rfl (BL.all HS1.out) rfl ?_)
   | (go_at_call 38; refine (read_any a0 n0 c0 a1 n1 c1 a2 n2 c2 a3 n3 c3 a4 n4 c4 a5 n5 c5 x _ (H.out.kept HB1.out) HBG.out).mono ?_; unfold ReadR; rw [hv]; (simp only [if_true]); rintro e w3 ⟨gb, m0, m1, m2, m3, m4, m5, m6, m7, rfl, hst, b3, h8, h9⟩; have HB3 := Lib.hid (below_then HB1.out b3); have HST3 := Lib.hid hst; have q1 := hst.blk.get (j := 1) rfl; clear hst b3 h8 h9))
  go_loopw [6, 23] (fun v iv wr => ∃ k : Nat, k ≤ n1 ∧ iv = .int .i64 (k : Int) ∧ Hid (OL rStr 1 9 w3 wr v ((x.need.take k).filter fun n => !coverB x n)) ∧ Hid (Below w3.heap.size w3 wr)) (fun _ iv _ => n1 - (intOf iv).toNat)
  case atStart => exact ⟨0, by omega, rfl, Lib.hid (OL.nil _ _ _ _ _), Lib.hid (Below.refl _ _)⟩
  case round =>
   obtain ⟨k, hk, rfl, ho, hb⟩ := hrel
   obtain ⟨wx, hwx⟩ : ∃ x, x = wr := ⟨_, rfl⟩
   rw [← hwx] at ho hb ⊢
   clear hwx
   have HBx := Lib.hid (below_thenB HB3.out HB3.out.size hb.out)
   by_cases hlt : k < n1
   ·
    obtain ⟨s, g, o, hs, rfl, p1⟩ := H.out.need.str_at HBx.out hlt
    have HOK := Lib.hid (H.out.need.str_ok hs)
    have HX := Lib.hid hs
    have HFL : Hid (((x.need.take k).filter fun n => !coverB x n).length ≤ k) := Lib.hid (Nat.le_trans (List.length_filter_le _ _) (by rw [List.length_take]; omega))
    clear hs
    cases h1 : coverB x s with
    | true =>
     have HF : Hid (((x.need.take (k + 1)).filter fun n => !coverB x n) = (x.need.take k).filter fun n => !coverB x n) := Lib.hid (by rw [filt_step HX.out]; simp [h1])
     go_wp2_with (first
      | (go_at_call 74; refine (covered_st _ _ _ _ _ _ _ _ _ _ _ _ _ _ _ _ _ _ _ _ _ _ _ _ _ _ _ _ _ _ (HST3.out.kept hb.out) s HOK.out).mono ?_; rintro e w4 ⟨rfl, hw⟩; rw [hw, st0_cov, h1]; clear hw w4))
     go_roundw
     case rel => exact ⟨k + 1, by omega, by go_num, Lib.hid (by rw [HF.out]; exact ho.out), hb⟩
     case measure => simp [intOf]; omega
    | false =>
     have HF : Hid (((x.need.take (k + 1)).filter fun n => !coverB x n) = ((x.need.take k).filter fun n => !coverB x n) ++ [s]) := Lib.hid (by rw [filt_step HX.out]; simp [h1])
     obtain ⟨nf, hnf⟩ : ∃ nf, ((x.need.take k).filter fun n => !coverB x n).length = nf := ⟨_, rfl⟩
     obtain ⟨css, hc1, hc2, hc3, hc4, hc5⟩ := (ho).out
     rw [hnf] at hc4
     have HNF : Hid (nf ≤ k) := Lib.hid (by rw [← hnf]; exact HFL.out)
     have HN := Lib.hid hnf
     have HC1 := Lib.hid hc1
     have HC2 := Lib.hid hc2
     have HC3 := Lib.hid hc3
     have HC4 := Lib.hid hc4
     have HC5 := Lib.hid hc5
     clear hnf hc1 hc2 hc3 hc4 hc5
     go_wp2_with (first
      | (go_at_call 74; refine (covered_st _ _ _ _ _ _ _ _ _ _ _ _ _ _ _ _ _ _ _ _ _ _ _ _ _ _ _ _ _ _ (HST3.out.kept hb.out) s HOK.out).mono ?_; rintro e w4 ⟨rfl, hw⟩; rw [hw, st0_cov, h1]; clear hw w4)
      | ((with_reducible show OpW 33); refine wpList_bslice _ rfl 23 9 1 _ rfl #[(0, .string (strB s))] (by rw [List.map_toArray]; rfl) [.string (strB s)] (bslStr s _) ?_; intro w8 a1 a2 a3; have HG8 := Lib.hid a1; have HX8 := Lib.hid (id a2); clear a1 a2 a3)
      | ((with_reducible show OpW 34); obtain ⟨iS, i1, i2, i3, i4⟩ := info_some infoStr; refine wpList_appRW _ rfl (.tmp 31) (.tmp 33) 23 9 1 iS _ rfl Try.underlying23 i1 i2 i3 rfl _ nf _ rfl (HC4.out.kept HX8.out) (wx).heap.size _ rfl HG8.out rfl (one_str s) (by rw [i4]; have := HNF.out; omega) (by have := HNF.out; omega) ?_; intro v' w9 a1; have HR9 := Lib.hid a1; clear a1 i1 i2 i3 i4)
      | fail)
     have HY8 : Hid (Below w3.heap.size w3 w8) := Lib.hid (below_thenB hb.out hb.out.size HX8.out)
     have HY9 : Hid (Below w3.heap.size w3 w9) := Lib.hid (((Kp.of_below (S := fun _ => False) (below_thenB hb.out hb.out.size HX8.out)).after HR9.out.kp (fun i hi e => by have := HC5.out i e; omega)).below (Nat.le_refl _) (fun _ h => h.elim))
     have HO9 : Hid (OL rStr 1 9 w3 w9 v' ((x.need.take (k + 1)).filter fun n => !coverB x n)) := Lib.hid (by
      rw [HF.out]
      exact OL.push HC1.out HC2.out HC3.out HC5.out HN.out rfl ⟨rfl, HOK.out⟩ HY8.out.size HR9.out)
     go_roundw
     case rel => exact ⟨k + 1, by omega, by go_num, HO9, HY9⟩
     case measure => simp [intOf]; omega
   ·
    obtain rfl : n1 = k := by omega
    have HFL : Hid ((uncov x).length * 16 ≤ lim) := Lib.hid (Nat.le_trans (Nat.mul_le_mul_right _ (Nat.le_trans (List.length_filter_le _ _) (by rw [HL.out]; exact Nat.le_refl _))) H.out.need.2.2.1)
    go_wp2_with fail
    go_ret2
    have h9 := ho.out
    rw [take_end HL.out] at h9
    obtain ⟨A9, c9, e9, l9⟩ := OL.ls (b := 16) (L := uncov x) h9 stay_str hb.out HFL.out
    exact ⟨A9, c9, by rw [e9]; rfl, l9, HBx.out⟩

end Go.Proofs.Ytboglaokdgnpaaa
/- Unneeded and Sparse of the program. -/
namespace Go.Proofs.Ytboglaokdgnpaaa
open Go Go.RowKit Gf Sha
def unneedL (x : Si) : List (List UInt8) := (x.sp.filter fun s => unneedB x s).map (·.id)
def sparseL (x : Si) : List (List UInt8) := (x.sp.filter fun s => sparseB x s).map (·.id)
theorem szOk_of {l : List Rf} (h1 : l.length ≤ 1000) (h : ∀ r ∈ l, rfB r = true) : szOk l := ⟨h1, fun r hr => by
 have := h r hr
 simp only [rfB, Bool.and_eq_true, decide_eq_true_eq] at this
 exact ⟨this.2.2.1, this.2.2.2⟩⟩
theorem siB_pct {x : Si} (h : siB x = true) : 0 ≤ x.pct ∧ x.pct ≤ 100 := by
 simp only [siB, Bool.and_eq_true, decide_eq_true_eq] at h; exact ⟨h.2.2.2.2.2.2.1, h.2.2.2.2.2.2.2⟩
theorem st0_use {x : Si} {s : Sp} : useU (st0 x) s.refs = (wanted x s).isEmpty := rfl
theorem st0_unneed {x : Si} {s : Sp} : (liveB x s.id && useU (st0 x) s.refs) = unneedB x s := rfl
theorem st0_sparse {x : Si} {s : Sp} : (liveB x s.id && useS (st0 x) x.pct s.refs) = sparseB x s := rfl
theorem filtmap_step {α β : Type} {l : List α} {p : α → Bool} {f : α → β} {k : Nat} {x : α} (h : l[k]? = some x) : ((l.take (k + 1)).filter p).map f = ((l.take k).filter p).map f ++ (if p x then [f x] else []) := by
 rw [filt_step h, List.map_append]
 by_cases hp : p x = true
 ·
  simp [hp]
 ·
  simp [hp]

set_option maxHeartbeats 1000000 in
theorem unneed1_any (u s : Bool) (w : World) : Calls Try.prog 73 #[.bool u, .bool s] w fun e w' => e = .returned (.bool u) ∧ w' = w := by
 go_enter Try.func73, Try.ntmps73
 go_wp2_with fail
 go_ret
 exact ⟨rfl, rfl⟩
set_option maxHeartbeats 1000000 in
theorem sparse1_any (u s : Bool) (w : World) : Calls Try.prog 75 #[.bool u, .bool s] w fun e w' => e = .returned (.bool s) ∧ w' = w := by
 go_enter Try.func75, Try.ntmps75
 go_wp2_with fail
 go_ret
 exact ⟨rfl, rfl⟩
set_option maxRecDepth 100000 in
set_option maxHeartbeats 4000000 in
theorem chooseU_any (a0 : Option Addr) (n0 c0 : Nat) (a1 : Option Addr) (n1 c1 : Nat) (a2 : Option Addr) (n2 c2 : Nat) (a3 : Option Addr) (n3 c3 : Nat) (a4 : Option Addr) (n4 c4 : Nat) (a5 : Option Addr) (n5 c5 : Nat) (x : Si) (w : World) (hq : SiOk w a0 n0 c0 a1 n1 c1 a2 n2 c2 a3 n3 c3 a4 n4 c4 a5 n5 c5 x) (hbig : x.sp.length ≤ 1000) :
  Calls Try.prog 72 #[.agg (siC a0 n0 c0 a1 n1 c1 a2 n2 c2 a3 n3 c3 a4 n4 c4 a5 n5 c5 x.pct).toArray, .func (.func 73) #[] #[]] w (TStr (siB x) (unneedL x) w) := by
 have hn := hq.sp.len_le
 have H := Lib.hid hq
 have HL := Lib.hid hq.sp.1
 have HBG := Lib.hid hbig
 clear hq hbig
 cases hv : siB x with
 | false =>
  go_enter Try.func72, Try.ntmps72
  go_wp2_with (first
   | ((with_reducible show OpW 2); refine wpList_box _ rfl 33 (.tmp 0) rfl (siC a0 n0 c0 a1 n1 c1 a2 n2 c2 a3 n3 c3 a4 n4 c4 a5 n5 c5 x.pct) rfl ?_; intro w1 a1 a2 a3; have HB1 := Lib.hid a2; have HS1 := Lib.hid a1; clear a1 a2 a3)
   | ((with_reducible show OpW 10); refine wpList_loadv _ rfl 33 (.tmp 2) rfl 7 (by kernel_rfl) w.heap.size 0 _ rfl (BL.all HS1.out) rfl ?_)
   | (go_at_call 38; refine (read_any a0 n0 c0 a1 n1 c1 a2 n2 c2 a3 n3 c3 a4 n4 c4 a5 n5 c5 x _ (H.out.kept HB1.out) HBG.out).mono ?_; unfold ReadR; rw [hv]; (simp only [Bool.false_eq_true, if_false]); rintro e wb ⟨rfl, b3⟩; have HB3 := Lib.hid (below_then HB1.out b3); clear b3))
  go_ret2
  exact ⟨rfl, HB3.out⟩
 | true =>
  have HPC := Lib.hid (siB_pct hv)
  go_enter Try.func72, Try.ntmps72
  go_wp2_with (first
   | ((with_reducible show OpW 2); refine wpList_box _ rfl 33 (.tmp 0) rfl (siC a0 n0 c0 a1 n1 c1 a2 n2 c2 a3 n3 c3 a4 n4 c4 a5 n5 c5 x.pct) rfl ?_; intro w1 a1 a2 a3; have HB1 := Lib.hid a2; have HS1 := Lib.hid a1; clear a1 a2 a3)
   | ((with_reducible show OpW 10); refine wpList_loadv _ rfl 33 (.tmp 2) rfl 7 (by kernel_rfl) w.heap.size 0 _ rfl (BL.all HS1.out) rfl ?_)
   | (go_at_call 38; refine (read_any a0 n0 c0 a1 n1 c1 a2 n2 c2 a3 n3 c3 a4 n4 c4 a5 n5 c5 x _ (H.out.kept HB1.out) HBG.out).mono ?_; unfold ReadR; rw [hv]; (simp only [if_true]); rintro e wb ⟨gb, m0, m1, m2, m3, m4, m5, m6, m7, rfl, hst, b3, h8, h9⟩; have HB3 := Lib.hid (below_then HB1.out b3); have HST3 := Lib.hid hst; have q0 := hst.blk.get (j := 0) rfl; clear hst b3 h8 h9))
  clear q0
  go_loopw [4, 23] (fun v iv wr => ∃ k : Nat, k ≤ n0 ∧ iv = .int .i64 (k : Int) ∧ Hid (OL rStr 1 9 wb wr v (((x.sp.take k).filter fun s => unneedB x s).map (·.id))) ∧ Hid (Below wb.heap.size wb wr)) (fun _ iv _ => n0 - (intOf iv).toNat)
  case atStart => exact ⟨0, by omega, rfl, Lib.hid (OL.nil _ _ _ _ _), Lib.hid (Below.refl _ _)⟩
  case round =>
   obtain ⟨k, hk, rfl, ho, hb⟩ := hrel
   obtain ⟨wx, hwx⟩ : ∃ x, x = wr := ⟨_, rfl⟩
   rw [← hwx] at ho hb ⊢
   clear hwx
   have HBx := Lib.hid (below_thenB HB3.out HB3.out.size hb.out)
   by_cases hlt : k < n0
   ·
    obtain ⟨s, g, o, cs, hs, rfl, hat, hsp⟩ := H.out.sp.at_ stay_sp (Below.refl _ _) hlt
    have HSP := Lib.hid hsp
    obtain ⟨A, m, c, rfl, hlr, hid, _⟩ := hsp
    have HLR := Lib.hid hlr
    have HID := Lib.hid hid
    have HX := Lib.hid hs
    have HSB := Lib.hid (spB_refs (okB_at (siB_sp hv) hs))
    have HSZ : Hid (szOk s.refs) := Lib.hid (szOk_of (by have := HSB.out.1; omega) HSB.out.2.2)
    have HA := Lib.hid (hat.kept HBx.out)
    have HFL : Hid ((((x.sp.take k).filter fun s => unneedB x s).map (·.id)).length ≤ k) := Lib.hid (by rw [List.length_map]; exact Nat.le_trans (List.length_filter_le _ _) (by rw [List.length_take]; omega))
    clear hs hat hlr hid
    cases h0 : liveB x s.id with
    | false =>
     have HF : Hid (((x.sp.take (k + 1)).filter fun s => unneedB x s).map (·.id) = ((x.sp.take k).filter fun s => unneedB x s).map (·.id)) := Lib.hid (by rw [filtmap_step HX.out]; simp [unneedB, h0])
     go_wp2_with (first
      | ((with_reducible show OpW 26); refine wpList_loadv _ rfl 61 (.tmp 25) rfl 6 (by kernel_rfl) g (o + k * 6) (spC s A m c) (by go_simp) HA.out rfl ?_)
      | ((with_reducible show OpW 8); refine wpList_alloc _ rfl 61 rfl spZ spZero ?_; intro w3 a1 a2 a3; have HV3 := Lib.hid a1; have HX3 := Lib.hid a2; clear a1 a2 a3)
      | ((with_reducible show OpN); refine wpList_storev _ rfl 61 (.tmp 8) (.tmp 26) rfl 6 (by kernel_rfl) wx.heap.size 0 _ spZ (spC s A m c) rfl rfl HV3.out rfl (one_sp s A m c) (by decide) ?_; intro w4 a1 a2 a3; have HV4 : Hid (BL w4 wx.heap.size 61 (spC s A m c)) := Lib.hid a1; have HX4 : Hid (Below wx.heap.size wx w4) := Lib.hid (((Kp.of_below (S := fun _ => False) HX3.out).after a2 (fun i hi e => by omega)).below (Nat.le_refl _) (fun _ h => h.elim)); clear a1 a2 a3; have r0 := HV4.out.get (j := 0) rfl)
      | (go_at_call 78; refine (live_st _ _ _ _ _ _ _ _ _ _ _ _ _ _ _ _ _ _ _ _ _ _ _ _ _ _ _ _ _ _ (HST3.out.kept (below_thenB hb.out hb.out.size HX4.out)) s.id HID.out).mono ?_; rintro e w5 ⟨rfl, hw⟩; rw [hw, st0_live (List.mem_of_getElem? HX.out), h0]; clear hw w5))
     go_roundw
     case rel => exact ⟨k + 1, by omega, by go_num, Lib.hid (by rw [HF.out]; exact ho.out.kept HX4.out), Lib.hid (below_thenB hb.out hb.out.size HX4.out)⟩
     case measure => simp [intOf]; omega
    | true =>
     cases h1 : useU (st0 x) s.refs with
     | false =>
      have HPF : Hid (unneedB x s = false) := Lib.hid (by rw [← st0_unneed, h0, h1]; rfl)
      have HF : Hid (((x.sp.take (k + 1)).filter fun s => unneedB x s).map (·.id) = ((x.sp.take k).filter fun s => unneedB x s).map (·.id)) := Lib.hid (by rw [filtmap_step HX.out]; simp [HPF.out])
      go_wp2_with (first
       | ((with_reducible show OpW 26); refine wpList_loadv _ rfl 61 (.tmp 25) rfl 6 (by kernel_rfl) g (o + k * 6) (spC s A m c) (by go_simp) HA.out rfl ?_)
       | ((with_reducible show OpW 8); refine wpList_alloc _ rfl 61 rfl spZ spZero ?_; intro w3 a1 a2 a3; have HV3 := Lib.hid a1; have HX3 := Lib.hid a2; clear a1 a2 a3)
       | ((with_reducible show OpN); refine wpList_storev _ rfl 61 (.tmp 8) (.tmp 26) rfl 6 (by kernel_rfl) wx.heap.size 0 _ spZ (spC s A m c) rfl rfl HV3.out rfl (one_sp s A m c) (by decide) ?_; intro w4 a1 a2 a3; have HV4 : Hid (BL w4 wx.heap.size 61 (spC s A m c)) := Lib.hid a1; have HX4 : Hid (Below wx.heap.size wx w4) := Lib.hid (((Kp.of_below (S := fun _ => False) HX3.out).after a2 (fun i hi e => by omega)).below (Nat.le_refl _) (fun _ h => h.elim)); clear a1 a2 a3; have r0 := HV4.out.get (j := 0) rfl)
       | (go_at_call 78; refine (live_st _ _ _ _ _ _ _ _ _ _ _ _ _ _ _ _ _ _ _ _ _ _ _ _ _ _ _ _ _ _ (HST3.out.kept (below_thenB hb.out hb.out.size HX4.out)) s.id HID.out).mono ?_; rintro e w5 ⟨rfl, hw⟩; rw [hw, st0_live (List.mem_of_getElem? HX.out), h0]; clear hw w5) | ((with_reducible show OpW 34); refine wpList_loadvg _ rfl 61 (.tmp 8) rfl 6 (by kernel_rfl) wx.heap.size 0 (spC s A m c) rfl (BL.all HV4.out) rfl ?_) | (go_at_call 80; refine (use_any _ _ _ _ _ _ _ _ _ _ _ _ _ _ _ _ _ _ _ _ _ _ _ _ _ _ _ _ _ _ (HST3.out.kept (below_thenB hb.out hb.out.size HX4.out)) HPC.out s A m c (HLR.out.kept stay_rf (below_thenB HBx.out HBx.out.size HX4.out)) HSZ.out).mono ?_; rintro e w6 ⟨rfl, b6⟩; rw [h1]; have HX6 := Lib.hid (below_thenB HX4.out HX4.out.size b6); have HV6 := Lib.hid (HV4.out.kept b6); have p0 := HV6.out.get (j := 0) rfl; clear b6) | (go_at_call 73; refine (unneed1_any _ _ _).mono ?_; rintro e w7 ⟨rfl, hw⟩; rw [hw]; clear hw w7))
      go_roundw
      case rel => exact ⟨k + 1, by omega, by go_num, Lib.hid (by rw [HF.out]; exact ho.out.kept HX6.out), Lib.hid (below_thenB hb.out hb.out.size HX6.out)⟩
      case measure => simp [intOf]; omega
     | true =>
      have HPF : Hid (unneedB x s = true) := Lib.hid (by rw [← st0_unneed, h0, h1]; rfl)
      have HF : Hid (((x.sp.take (k + 1)).filter fun s => unneedB x s).map (·.id) = ((x.sp.take k).filter fun s => unneedB x s).map (·.id) ++ [s.id]) := Lib.hid (by rw [filtmap_step HX.out]; simp [HPF.out])
      obtain ⟨nf, hnf⟩ : ∃ nf, (((x.sp.take k).filter fun s => unneedB x s).map (·.id)).length = nf := ⟨_, rfl⟩
      obtain ⟨css, hc1, hc2, hc3, hc4, hc5⟩ := (ho).out
      rw [hnf] at hc4
      have HNF : Hid (nf ≤ k) := Lib.hid (by rw [← hnf]; exact HFL.out)
      have HN := Lib.hid hnf
      have HC1 := Lib.hid hc1
      have HC2 := Lib.hid hc2
      have HC3 := Lib.hid hc3
      have HC4 := Lib.hid hc4
      have HC5 := Lib.hid hc5
      clear hnf hc1 hc2 hc3 hc4 hc5
      go_wp2_with (first
       | ((with_reducible show OpW 26); refine wpList_loadv _ rfl 61 (.tmp 25) rfl 6 (by kernel_rfl) g (o + k * 6) (spC s A m c) (by go_simp) HA.out rfl ?_)
       | ((with_reducible show OpW 8); refine wpList_alloc _ rfl 61 rfl spZ spZero ?_; intro w3 a1 a2 a3; have HV3 := Lib.hid a1; have HX3 := Lib.hid a2; clear a1 a2 a3)
       | ((with_reducible show OpN); refine wpList_storev _ rfl 61 (.tmp 8) (.tmp 26) rfl 6 (by kernel_rfl) wx.heap.size 0 _ spZ (spC s A m c) rfl rfl HV3.out rfl (one_sp s A m c) (by decide) ?_; intro w4 a1 a2 a3; have HV4 : Hid (BL w4 wx.heap.size 61 (spC s A m c)) := Lib.hid a1; have HX4 : Hid (Below wx.heap.size wx w4) := Lib.hid (((Kp.of_below (S := fun _ => False) HX3.out).after a2 (fun i hi e => by omega)).below (Nat.le_refl _) (fun _ h => h.elim)); clear a1 a2 a3; have r0 := HV4.out.get (j := 0) rfl)
       | (go_at_call 78; refine (live_st _ _ _ _ _ _ _ _ _ _ _ _ _ _ _ _ _ _ _ _ _ _ _ _ _ _ _ _ _ _ (HST3.out.kept (below_thenB hb.out hb.out.size HX4.out)) s.id HID.out).mono ?_; rintro e w5 ⟨rfl, hw⟩; rw [hw, st0_live (List.mem_of_getElem? HX.out), h0]; clear hw w5)
       | ((with_reducible show OpW 34); refine wpList_loadvg _ rfl 61 (.tmp 8) rfl 6 (by kernel_rfl) wx.heap.size 0 (spC s A m c) rfl (BL.all HV4.out) rfl ?_)
       | (go_at_call 80; refine (use_any _ _ _ _ _ _ _ _ _ _ _ _ _ _ _ _ _ _ _ _ _ _ _ _ _ _ _ _ _ _ (HST3.out.kept (below_thenB hb.out hb.out.size HX4.out)) HPC.out s A m c (HLR.out.kept stay_rf (below_thenB HBx.out HBx.out.size HX4.out)) HSZ.out).mono ?_; rintro e w6 ⟨rfl, b6⟩; rw [h1]; have HX6 := Lib.hid (below_thenB HX4.out HX4.out.size b6); have HV6 := Lib.hid (HV4.out.kept b6); have p0 := HV6.out.get (j := 0) rfl; clear b6)
       | (go_at_call 73; refine (unneed1_any _ _ _).mono ?_; rintro e w7 ⟨rfl, hw⟩; rw [hw]; clear hw w7)
       | ((with_reducible show OpW 43); refine wpList_bslice _ rfl 23 9 1 _ rfl #[(0, .string (strB s.id))] (by rw [List.map_toArray]; rfl) [.string (strB s.id)] (bslStr s.id _) ?_; intro w8 a1 a2 a3; have HG8 := Lib.hid a1; have HX8 := Lib.hid (below_thenB HX6.out HX6.out.size a2); clear a1 a2 a3)
       | ((with_reducible show OpW 44); obtain ⟨iS, i1, i2, i3, i4⟩ := info_some infoStr; refine wpList_appRW _ rfl (.tmp 40) (.tmp 43) 23 9 1 iS _ rfl Try.underlying23 i1 i2 i3 rfl _ nf _ rfl (HC4.out.kept HX8.out) (w6).heap.size _ rfl HG8.out rfl (one_str s.id) (by rw [i4]; have := HNF.out; omega) (by have := HNF.out; omega) ?_; intro v' w9 a1; have HR9 := Lib.hid a1; clear a1 i1 i2 i3 i4)
       | fail)
      have HY8 : Hid (Below wb.heap.size wb w8) := Lib.hid (below_thenB hb.out hb.out.size HX8.out)
      have HY9 : Hid (Below wb.heap.size wb w9) := Lib.hid (((Kp.of_below (S := fun _ => False) HY8.out).after HR9.out.kp (fun i hi e => by have := HC5.out i e; omega)).below (Nat.le_refl _) (fun _ h => h.elim))
      have HO9 : Hid (OL rStr 1 9 wb w9 v' (((x.sp.take (k + 1)).filter fun s => unneedB x s).map (·.id))) := Lib.hid (by
       rw [HF.out]
       exact OL.push HC1.out HC2.out HC3.out HC5.out HN.out rfl ⟨rfl, HID.out⟩ HY8.out.size HR9.out)
      go_roundw
      case rel => exact ⟨k + 1, by omega, by go_num, HO9, HY9⟩
      case measure => simp [intOf]; omega
   ·
    obtain rfl : n0 = k := by omega
    have HFL : Hid ((unneedL x).length * 16 ≤ lim) := Lib.hid (by
     rw [unneedL, List.length_map]
     have h1 : (x.sp.filter fun s => unneedB x s).length ≤ n0 := by rw [← HL.out]; exact List.length_filter_le _ _
     have h2 := H.out.sp.2.2.1
     omega)
    go_wp2_with fail
    go_ret2
    have h9 := ho.out
    rw [take_end HL.out] at h9
    obtain ⟨A9, c9, e9, l9⟩ := OL.ls (b := 16) (L := unneedL x) h9 stay_str hb.out HFL.out
    exact ⟨A9, c9, by rw [e9]; rfl, l9, HBx.out⟩
set_option maxRecDepth 100000 in
set_option maxHeartbeats 4000000 in
theorem chooseS_any (a0 : Option Addr) (n0 c0 : Nat) (a1 : Option Addr) (n1 c1 : Nat) (a2 : Option Addr) (n2 c2 : Nat) (a3 : Option Addr) (n3 c3 : Nat) (a4 : Option Addr) (n4 c4 : Nat) (a5 : Option Addr) (n5 c5 : Nat) (x : Si) (w : World) (hq : SiOk w a0 n0 c0 a1 n1 c1 a2 n2 c2 a3 n3 c3 a4 n4 c4 a5 n5 c5 x) (hbig : x.sp.length ≤ 1000) :
  Calls Try.prog 72 #[.agg (siC a0 n0 c0 a1 n1 c1 a2 n2 c2 a3 n3 c3 a4 n4 c4 a5 n5 c5 x.pct).toArray, .func (.func 75) #[] #[]] w (TStr (siB x) (sparseL x) w) := by
 have hn := hq.sp.len_le
 have H := Lib.hid hq
 have HL := Lib.hid hq.sp.1
 have HBG := Lib.hid hbig
 clear hq hbig
 cases hv : siB x with
 | false =>
  go_enter Try.func72, Try.ntmps72
  go_wp2_with (first
   | ((with_reducible show OpW 2); refine wpList_box _ rfl 33 (.tmp 0) rfl (siC a0 n0 c0 a1 n1 c1 a2 n2 c2 a3 n3 c3 a4 n4 c4 a5 n5 c5 x.pct) rfl ?_; intro w1 a1 a2 a3; have HB1 := Lib.hid a2; have HS1 := Lib.hid a1; clear a1 a2 a3)
   | ((with_reducible show OpW 10); refine wpList_loadv _ rfl 33 (.tmp 2) rfl 7 (by kernel_rfl) w.heap.size 0 _ rfl (BL.all HS1.out) rfl ?_)
   | (go_at_call 38; refine (read_any a0 n0 c0 a1 n1 c1 a2 n2 c2 a3 n3 c3 a4 n4 c4 a5 n5 c5 x _ (H.out.kept HB1.out) HBG.out).mono ?_; unfold ReadR; rw [hv]; (simp only [Bool.false_eq_true, if_false]); rintro e wb ⟨rfl, b3⟩; have HB3 := Lib.hid (below_then HB1.out b3); clear b3))
  go_ret2
  exact ⟨rfl, HB3.out⟩
 | true =>
  have HPC := Lib.hid (siB_pct hv)
  go_enter Try.func72, Try.ntmps72
  go_wp2_with (first
   | ((with_reducible show OpW 2); refine wpList_box _ rfl 33 (.tmp 0) rfl (siC a0 n0 c0 a1 n1 c1 a2 n2 c2 a3 n3 c3 a4 n4 c4 a5 n5 c5 x.pct) rfl ?_; intro w1 a1 a2 a3; have HB1 := Lib.hid a2; have HS1 := Lib.hid a1; clear a1 a2 a3)
   | ((with_reducible show OpW 10); refine wpList_loadv _ rfl 33 (.tmp 2) rfl 7 (by kernel_rfl) w.heap.size 0 _ rfl (BL.all HS1.out) rfl ?_)
   | (go_at_call 38; refine (read_any a0 n0 c0 a1 n1 c1 a2 n2 c2 a3 n3 c3 a4 n4 c4 a5 n5 c5 x _ (H.out.kept HB1.out) HBG.out).mono ?_; unfold ReadR; rw [hv]; (simp only [if_true]); rintro e wb ⟨gb, m0, m1, m2, m3, m4, m5, m6, m7, rfl, hst, b3, h8, h9⟩; have HB3 := Lib.hid (below_then HB1.out b3); have HST3 := Lib.hid hst; have q0 := hst.blk.get (j := 0) rfl; clear hst b3 h8 h9))
  clear q0
  go_loopw [4, 23] (fun v iv wr => ∃ k : Nat, k ≤ n0 ∧ iv = .int .i64 (k : Int) ∧ Hid (OL rStr 1 9 wb wr v (((x.sp.take k).filter fun s => sparseB x s).map (·.id))) ∧ Hid (Below wb.heap.size wb wr)) (fun _ iv _ => n0 - (intOf iv).toNat)
  case atStart => exact ⟨0, by omega, rfl, Lib.hid (OL.nil _ _ _ _ _), Lib.hid (Below.refl _ _)⟩
  case round =>
   obtain ⟨k, hk, rfl, ho, hb⟩ := hrel
   obtain ⟨wx, hwx⟩ : ∃ x, x = wr := ⟨_, rfl⟩
   rw [← hwx] at ho hb ⊢
   clear hwx
   have HBx := Lib.hid (below_thenB HB3.out HB3.out.size hb.out)
   by_cases hlt : k < n0
   ·
    obtain ⟨s, g, o, cs, hs, rfl, hat, hsp⟩ := H.out.sp.at_ stay_sp (Below.refl _ _) hlt
    have HSP := Lib.hid hsp
    obtain ⟨A, m, c, rfl, hlr, hid, _⟩ := hsp
    have HLR := Lib.hid hlr
    have HID := Lib.hid hid
    have HX := Lib.hid hs
    have HSB := Lib.hid (spB_refs (okB_at (siB_sp hv) hs))
    have HSZ : Hid (szOk s.refs) := Lib.hid (szOk_of (by have := HSB.out.1; omega) HSB.out.2.2)
    have HA := Lib.hid (hat.kept HBx.out)
    have HFL : Hid ((((x.sp.take k).filter fun s => sparseB x s).map (·.id)).length ≤ k) := Lib.hid (by rw [List.length_map]; exact Nat.le_trans (List.length_filter_le _ _) (by rw [List.length_take]; omega))
    clear hs hat hlr hid
    cases h0 : liveB x s.id with
    | false =>
     have HF : Hid (((x.sp.take (k + 1)).filter fun s => sparseB x s).map (·.id) = ((x.sp.take k).filter fun s => sparseB x s).map (·.id)) := Lib.hid (by rw [filtmap_step HX.out]; simp [sparseB, h0])
     go_wp2_with (first
      | ((with_reducible show OpW 26); refine wpList_loadv _ rfl 61 (.tmp 25) rfl 6 (by kernel_rfl) g (o + k * 6) (spC s A m c) (by go_simp) HA.out rfl ?_)
      | ((with_reducible show OpW 8); refine wpList_alloc _ rfl 61 rfl spZ spZero ?_; intro w3 a1 a2 a3; have HV3 := Lib.hid a1; have HX3 := Lib.hid a2; clear a1 a2 a3)
      | ((with_reducible show OpN); refine wpList_storev _ rfl 61 (.tmp 8) (.tmp 26) rfl 6 (by kernel_rfl) wx.heap.size 0 _ spZ (spC s A m c) rfl rfl HV3.out rfl (one_sp s A m c) (by decide) ?_; intro w4 a1 a2 a3; have HV4 : Hid (BL w4 wx.heap.size 61 (spC s A m c)) := Lib.hid a1; have HX4 : Hid (Below wx.heap.size wx w4) := Lib.hid (((Kp.of_below (S := fun _ => False) HX3.out).after a2 (fun i hi e => by omega)).below (Nat.le_refl _) (fun _ h => h.elim)); clear a1 a2 a3; have r0 := HV4.out.get (j := 0) rfl)
      | (go_at_call 78; refine (live_st _ _ _ _ _ _ _ _ _ _ _ _ _ _ _ _ _ _ _ _ _ _ _ _ _ _ _ _ _ _ (HST3.out.kept (below_thenB hb.out hb.out.size HX4.out)) s.id HID.out).mono ?_; rintro e w5 ⟨rfl, hw⟩; rw [hw, st0_live (List.mem_of_getElem? HX.out), h0]; clear hw w5))
     go_roundw
     case rel => exact ⟨k + 1, by omega, by go_num, Lib.hid (by rw [HF.out]; exact ho.out.kept HX4.out), Lib.hid (below_thenB hb.out hb.out.size HX4.out)⟩
     case measure => simp [intOf]; omega
    | true =>
     cases h1 : useS (st0 x) x.pct s.refs with
     | false =>
      have HPF : Hid (sparseB x s = false) := Lib.hid (by rw [← st0_sparse, h0, h1]; rfl)
      have HF : Hid (((x.sp.take (k + 1)).filter fun s => sparseB x s).map (·.id) = ((x.sp.take k).filter fun s => sparseB x s).map (·.id)) := Lib.hid (by rw [filtmap_step HX.out]; simp [HPF.out])
      go_wp2_with (first
       | ((with_reducible show OpW 26); refine wpList_loadv _ rfl 61 (.tmp 25) rfl 6 (by kernel_rfl) g (o + k * 6) (spC s A m c) (by go_simp) HA.out rfl ?_)
       | ((with_reducible show OpW 8); refine wpList_alloc _ rfl 61 rfl spZ spZero ?_; intro w3 a1 a2 a3; have HV3 := Lib.hid a1; have HX3 := Lib.hid a2; clear a1 a2 a3)
       | ((with_reducible show OpN); refine wpList_storev _ rfl 61 (.tmp 8) (.tmp 26) rfl 6 (by kernel_rfl) wx.heap.size 0 _ spZ (spC s A m c) rfl rfl HV3.out rfl (one_sp s A m c) (by decide) ?_; intro w4 a1 a2 a3; have HV4 : Hid (BL w4 wx.heap.size 61 (spC s A m c)) := Lib.hid a1; have HX4 : Hid (Below wx.heap.size wx w4) := Lib.hid (((Kp.of_below (S := fun _ => False) HX3.out).after a2 (fun i hi e => by omega)).below (Nat.le_refl _) (fun _ h => h.elim)); clear a1 a2 a3; have r0 := HV4.out.get (j := 0) rfl)
       | (go_at_call 78; refine (live_st _ _ _ _ _ _ _ _ _ _ _ _ _ _ _ _ _ _ _ _ _ _ _ _ _ _ _ _ _ _ (HST3.out.kept (below_thenB hb.out hb.out.size HX4.out)) s.id HID.out).mono ?_; rintro e w5 ⟨rfl, hw⟩; rw [hw, st0_live (List.mem_of_getElem? HX.out), h0]; clear hw w5) | ((with_reducible show OpW 34); refine wpList_loadvg _ rfl 61 (.tmp 8) rfl 6 (by kernel_rfl) wx.heap.size 0 (spC s A m c) rfl (BL.all HV4.out) rfl ?_) | (go_at_call 80; refine (use_any _ _ _ _ _ _ _ _ _ _ _ _ _ _ _ _ _ _ _ _ _ _ _ _ _ _ _ _ _ _ (HST3.out.kept (below_thenB hb.out hb.out.size HX4.out)) HPC.out s A m c (HLR.out.kept stay_rf (below_thenB HBx.out HBx.out.size HX4.out)) HSZ.out).mono ?_; rintro e w6 ⟨rfl, b6⟩; rw [h1]; have HX6 := Lib.hid (below_thenB HX4.out HX4.out.size b6); have HV6 := Lib.hid (HV4.out.kept b6); have p0 := HV6.out.get (j := 0) rfl; clear b6) | (go_at_call 75; refine (sparse1_any _ _ _).mono ?_; rintro e w7 ⟨rfl, hw⟩; rw [hw]; clear hw w7))
      go_roundw
      case rel => exact ⟨k + 1, by omega, by go_num, Lib.hid (by rw [HF.out]; exact ho.out.kept HX6.out), Lib.hid (below_thenB hb.out hb.out.size HX6.out)⟩
      case measure => simp [intOf]; omega
     | true =>
      have HPF : Hid (sparseB x s = true) := Lib.hid (by rw [← st0_sparse, h0, h1]; rfl)
      have HF : Hid (((x.sp.take (k + 1)).filter fun s => sparseB x s).map (·.id) = ((x.sp.take k).filter fun s => sparseB x s).map (·.id) ++ [s.id]) := Lib.hid (by rw [filtmap_step HX.out]; simp [HPF.out])
      obtain ⟨nf, hnf⟩ : ∃ nf, (((x.sp.take k).filter fun s => sparseB x s).map (·.id)).length = nf := ⟨_, rfl⟩
      obtain ⟨css, hc1, hc2, hc3, hc4, hc5⟩ := (ho).out
      rw [hnf] at hc4
      have HNF : Hid (nf ≤ k) := Lib.hid (by rw [← hnf]; exact HFL.out)
      have HN := Lib.hid hnf
      have HC1 := Lib.hid hc1
      have HC2 := Lib.hid hc2
      have HC3 := Lib.hid hc3
      have HC4 := Lib.hid hc4
      have HC5 := Lib.hid hc5
      clear hnf hc1 hc2 hc3 hc4 hc5
      go_wp2_with (first
       | ((with_reducible show OpW 26); refine wpList_loadv _ rfl 61 (.tmp 25) rfl 6 (by kernel_rfl) g (o + k * 6) (spC s A m c) (by go_simp) HA.out rfl ?_)
       | ((with_reducible show OpW 8); refine wpList_alloc _ rfl 61 rfl spZ spZero ?_; intro w3 a1 a2 a3; have HV3 := Lib.hid a1; have HX3 := Lib.hid a2; clear a1 a2 a3)
       | ((with_reducible show OpN); refine wpList_storev _ rfl 61 (.tmp 8) (.tmp 26) rfl 6 (by kernel_rfl) wx.heap.size 0 _ spZ (spC s A m c) rfl rfl HV3.out rfl (one_sp s A m c) (by decide) ?_; intro w4 a1 a2 a3; have HV4 : Hid (BL w4 wx.heap.size 61 (spC s A m c)) := Lib.hid a1; have HX4 : Hid (Below wx.heap.size wx w4) := Lib.hid (((Kp.of_below (S := fun _ => False) HX3.out).after a2 (fun i hi e => by omega)).below (Nat.le_refl _) (fun _ h => h.elim)); clear a1 a2 a3; have r0 := HV4.out.get (j := 0) rfl)
       | (go_at_call 78; refine (live_st _ _ _ _ _ _ _ _ _ _ _ _ _ _ _ _ _ _ _ _ _ _ _ _ _ _ _ _ _ _ (HST3.out.kept (below_thenB hb.out hb.out.size HX4.out)) s.id HID.out).mono ?_; rintro e w5 ⟨rfl, hw⟩; rw [hw, st0_live (List.mem_of_getElem? HX.out), h0]; clear hw w5)
       | ((with_reducible show OpW 34); refine wpList_loadvg _ rfl 61 (.tmp 8) rfl 6 (by kernel_rfl) wx.heap.size 0 (spC s A m c) rfl (BL.all HV4.out) rfl ?_)
       | (go_at_call 80; refine (use_any _ _ _ _ _ _ _ _ _ _ _ _ _ _ _ _ _ _ _ _ _ _ _ _ _ _ _ _ _ _ (HST3.out.kept (below_thenB hb.out hb.out.size HX4.out)) HPC.out s A m c (HLR.out.kept stay_rf (below_thenB HBx.out HBx.out.size HX4.out)) HSZ.out).mono ?_; rintro e w6 ⟨rfl, b6⟩; rw [h1]; have HX6 := Lib.hid (below_thenB HX4.out HX4.out.size b6); have HV6 := Lib.hid (HV4.out.kept b6); have p0 := HV6.out.get (j := 0) rfl; clear b6)
       | (go_at_call 75; refine (sparse1_any _ _ _).mono ?_; rintro e w7 ⟨rfl, hw⟩; rw [hw]; clear hw w7)
       | ((with_reducible show OpW 43); refine wpList_bslice _ rfl 23 9 1 _ rfl #[(0, .string (strB s.id))] (by rw [List.map_toArray]; rfl) [.string (strB s.id)] (bslStr s.id _) ?_; intro w8 a1 a2 a3; have HG8 := Lib.hid a1; have HX8 := Lib.hid (below_thenB HX6.out HX6.out.size a2); clear a1 a2 a3)
       | ((with_reducible show OpW 44); obtain ⟨iS, i1, i2, i3, i4⟩ := info_some infoStr; refine wpList_appRW _ rfl (.tmp 40) (.tmp 43) 23 9 1 iS _ rfl Try.underlying23 i1 i2 i3 rfl _ nf _ rfl (HC4.out.kept HX8.out) (w6).heap.size _ rfl HG8.out rfl (one_str s.id) (by rw [i4]; have := HNF.out; omega) (by have := HNF.out; omega) ?_; intro v' w9 a1; have HR9 := Lib.hid a1; clear a1 i1 i2 i3 i4)
       | fail)
      have HY8 : Hid (Below wb.heap.size wb w8) := Lib.hid (below_thenB hb.out hb.out.size HX8.out)
      have HY9 : Hid (Below wb.heap.size wb w9) := Lib.hid (((Kp.of_below (S := fun _ => False) HY8.out).after HR9.out.kp (fun i hi e => by have := HC5.out i e; omega)).below (Nat.le_refl _) (fun _ h => h.elim))
      have HO9 : Hid (OL rStr 1 9 wb w9 v' (((x.sp.take (k + 1)).filter fun s => sparseB x s).map (·.id))) := Lib.hid (by
       rw [HF.out]
       exact OL.push HC1.out HC2.out HC3.out HC5.out HN.out rfl ⟨rfl, HID.out⟩ HY8.out.size HR9.out)
      go_roundw
      case rel => exact ⟨k + 1, by omega, by go_num, HO9, HY9⟩
      case measure => simp [intOf]; omega
   ·
    obtain rfl : n0 = k := by omega
    have HFL : Hid ((sparseL x).length * 16 ≤ lim) := Lib.hid (by
     rw [sparseL, List.length_map]
     have h1 : (x.sp.filter fun s => sparseB x s).length ≤ n0 := by rw [← HL.out]; exact List.length_filter_le _ _
     have h2 := H.out.sp.2.2.1
     omega)
    go_wp2_with fail
    go_ret2
    have h9 := ho.out
    rw [take_end HL.out] at h9
    obtain ⟨A9, c9, e9, l9⟩ := OL.ls (b := 16) (L := sparseL x) h9 stay_str hb.out HFL.out
    exact ⟨A9, c9, by rw [e9]; rfl, l9, HBx.out⟩
set_option maxRecDepth 100000 in
set_option maxHeartbeats 2000000 in
theorem unneeded_any (a0 : Option Addr) (n0 c0 : Nat) (a1 : Option Addr) (n1 c1 : Nat) (a2 : Option Addr) (n2 c2 : Nat) (a3 : Option Addr) (n3 c3 : Nat) (a4 : Option Addr) (n4 c4 : Nat) (a5 : Option Addr) (n5 c5 : Nat) (x : Si) (w : World) (hq : SiOk w a0 n0 c0 a1 n1 c1 a2 n2 c2 a3 n3 c3 a4 n4 c4 a5 n5 c5 x) (hbig : x.sp.length ≤ 1000) :
  Calls Try.prog 25 #[.agg (siC a0 n0 c0 a1 n1 c1 a2 n2 c2 a3 n3 c3 a4 n4 c4 a5 n5 c5 x.pct).toArray] w (TStr (siB x) (unneedL x) w) := by
 have H := Lib.hid hq
 have HBG := Lib.hid hbig
 clear hq hbig
 cases hv : siB x with
 | false =>
  go_enter Try.func25, Try.ntmps25
  go_wp2_with (first
   | ((with_reducible show OpW 1); refine wpList_box _ rfl 33 (.tmp 0) rfl (siC a0 n0 c0 a1 n1 c1 a2 n2 c2 a3 n3 c3 a4 n4 c4 a5 n5 c5 x.pct) rfl ?_; intro w1 a1 a2 a3; have HB1 := Lib.hid a2; have HS1 := Lib.hid a1; clear a1 a2 a3)
   | ((with_reducible show OpW 4); refine wpList_loadv _ rfl 33 (.tmp 1) rfl 7 (by kernel_rfl) w.heap.size 0 _ rfl (BL.all HS1.out) rfl ?_)
   | (go_at_call 72; refine (chooseU_any a0 n0 c0 a1 n1 c1 a2 n2 c2 a3 n3 c3 a4 n4 c4 a5 n5 c5 x _ (H.out.kept HB1.out) HBG.out).mono ?_; unfold TStr; rw [hv]; (simp only [Bool.false_eq_true, if_false]); rintro e w3 ⟨rfl, b3⟩; have HB3 := Lib.hid (below_then HB1.out b3); clear b3))
  go_ret2
  exact ⟨rfl, HB3.out⟩
 | true =>
  go_enter Try.func25, Try.ntmps25
  go_wp2_with (first
   | ((with_reducible show OpW 1); refine wpList_box _ rfl 33 (.tmp 0) rfl (siC a0 n0 c0 a1 n1 c1 a2 n2 c2 a3 n3 c3 a4 n4 c4 a5 n5 c5 x.pct) rfl ?_; intro w1 a1 a2 a3; have HB1 := Lib.hid a2; have HS1 := Lib.hid a1; clear a1 a2 a3)
   | ((with_reducible show OpW 4); refine wpList_loadv _ rfl 33 (.tmp 1) rfl 7 (by kernel_rfl) w.heap.size 0 _ rfl (BL.all HS1.out) rfl ?_)
   | (go_at_call 72; refine (chooseU_any a0 n0 c0 a1 n1 c1 a2 n2 c2 a3 n3 c3 a4 n4 c4 a5 n5 c5 x _ (H.out.kept HB1.out) HBG.out).mono ?_; unfold TStr; rw [hv]; (simp only [if_true]); rintro e w3 ⟨A9, c9, rfl, l9, b3⟩; have HB3 := Lib.hid (below_then HB1.out b3); have HL9 := Lib.hid l9; clear b3 l9))
  go_ret2
  exact ⟨A9, c9, rfl, HL9.out, HB3.out⟩
set_option maxRecDepth 100000 in
set_option maxHeartbeats 2000000 in
theorem sparse_any (a0 : Option Addr) (n0 c0 : Nat) (a1 : Option Addr) (n1 c1 : Nat) (a2 : Option Addr) (n2 c2 : Nat) (a3 : Option Addr) (n3 c3 : Nat) (a4 : Option Addr) (n4 c4 : Nat) (a5 : Option Addr) (n5 c5 : Nat) (x : Si) (w : World) (hq : SiOk w a0 n0 c0 a1 n1 c1 a2 n2 c2 a3 n3 c3 a4 n4 c4 a5 n5 c5 x) (hbig : x.sp.length ≤ 1000) :
  Calls Try.prog 32 #[.agg (siC a0 n0 c0 a1 n1 c1 a2 n2 c2 a3 n3 c3 a4 n4 c4 a5 n5 c5 x.pct).toArray] w (TStr (siB x) (sparseL x) w) := by
 have H := Lib.hid hq
 have HBG := Lib.hid hbig
 clear hq hbig
 cases hv : siB x with
 | false =>
  go_enter Try.func32, Try.ntmps32
  go_wp2_with (first
   | ((with_reducible show OpW 1); refine wpList_box _ rfl 33 (.tmp 0) rfl (siC a0 n0 c0 a1 n1 c1 a2 n2 c2 a3 n3 c3 a4 n4 c4 a5 n5 c5 x.pct) rfl ?_; intro w1 a1 a2 a3; have HB1 := Lib.hid a2; have HS1 := Lib.hid a1; clear a1 a2 a3)
   | ((with_reducible show OpW 4); refine wpList_loadv _ rfl 33 (.tmp 1) rfl 7 (by kernel_rfl) w.heap.size 0 _ rfl (BL.all HS1.out) rfl ?_)
   | (go_at_call 72; refine (chooseS_any a0 n0 c0 a1 n1 c1 a2 n2 c2 a3 n3 c3 a4 n4 c4 a5 n5 c5 x _ (H.out.kept HB1.out) HBG.out).mono ?_; unfold TStr; rw [hv]; (simp only [Bool.false_eq_true, if_false]); rintro e w3 ⟨rfl, b3⟩; have HB3 := Lib.hid (below_then HB1.out b3); clear b3))
  go_ret2
  exact ⟨rfl, HB3.out⟩
 | true =>
  go_enter Try.func32, Try.ntmps32
  go_wp2_with (first
   | ((with_reducible show OpW 1); refine wpList_box _ rfl 33 (.tmp 0) rfl (siC a0 n0 c0 a1 n1 c1 a2 n2 c2 a3 n3 c3 a4 n4 c4 a5 n5 c5 x.pct) rfl ?_; intro w1 a1 a2 a3; have HB1 := Lib.hid a2; have HS1 := Lib.hid a1; clear a1 a2 a3)
   | ((with_reducible show OpW 4); refine wpList_loadv _ rfl 33 (.tmp 1) rfl 7 (by kernel_rfl) w.heap.size 0 _ rfl (BL.all HS1.out) rfl ?_)
   | (go_at_call 72; refine (chooseS_any a0 n0 c0 a1 n1 c1 a2 n2 c2 a3 n3 c3 a4 n4 c4 a5 n5 c5 x _ (H.out.kept HB1.out) HBG.out).mono ?_; unfold TStr; rw [hv]; (simp only [if_true]); rintro e w3 ⟨A9, c9, rfl, l9, b3⟩; have HB3 := Lib.hid (below_then HB1.out b3); have HL9 := Lib.hid l9; clear b3 l9))
  go_ret2
  exact ⟨A9, c9, rfl, HL9.out, HB3.out⟩
end Go.Proofs.Ytboglaokdgnpaaa
