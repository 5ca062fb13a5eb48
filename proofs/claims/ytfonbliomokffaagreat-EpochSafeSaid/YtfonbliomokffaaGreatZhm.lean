/- The town's view, known, needed. -/
import Derived.Test.YtfonbliomokffaaGreatZgm
import Derived.Test.YtfonbliomokffaaGreatTum
namespace Go.Proofs.YtfonbliomokffaaGreat
open Go Go.RowKit Gf Sha

def knownK (T : Tn) (w k : Nat) : List Int := ((List.range k).filter fun d => T.wr (3 * w + d) && (d == w || !T.ex d)).map fun d : Nat => (d : Int)
theorem knownK_step (T : Tn) (w k : Nat) : knownK T w (k + 1) = knownK T w k ++ (if T.wr (3 * w + k) && (k == w || !T.ex k) then [(k : Int)] else []) := by
 unfold knownK
 rw [List.range_succ, List.filter_append, List.map_append]
 congr 1
 rw [List.filter_cons]
 split <;> rfl
theorem knownK_len (T : Tn) (w k : Nat) : (knownK T w k).length ≤ k := by
 unfold knownK
 rw [List.length_map]
 exact Nat.le_trans (List.length_filter_le _ _) (by rw [List.length_range]; exact Nat.le_refl _)
def viewK (T : Tn) (u k : Nat) : List En := (List.range k).flatMap fun d => (T.lg d).take (T.vw (3 * u + d))
theorem viewK_step (T : Tn) (u k : Nat) : viewK T u (k + 1) = viewK T u k ++ (T.lg k).take (T.vw (3 * u + k)) := by
 unfold viewK
 rw [List.range_succ, List.flatMap_append]
 simp
theorem viewK_3 (T : Tn) (u : Nat) : viewK T u 3 = T.view u := by
 rw [viewK_step, viewK_step, viewK_step]
 simp [viewK, Tn.view]
theorem viewK_len (T : Tn) (u : Nat) : ∀ k, k ≤ 3 → (viewK T u k).length ≤ T.all.length := by
 have h3 := view_len T u
 rw [← viewK_3] at h3
 intro k hk
 refine Nat.le_trans ?_ h3
 rw [viewK_step, viewK_step, viewK_step]
 match k, hk with
 | 0, _ => simp [viewK]
 | 1, _ => rw [viewK_step]; simp [viewK]
 | 2, _ => rw [viewK_step, viewK_step]; simp [viewK]
 | 3, _ => rw [viewK_step, viewK_step, viewK_step]; exact Nat.le_refl _
theorem lg_len {T : Tn} {d : Nat} (hd : d < 3) : (T.lg d).length ≤ T.all.length := by
 unfold Tn.all
 simp only [List.length_append]
 match d, hd with
 | 0, _ => omega
 | 1, _ => omega
 | 2, _ => omega
def neededK (T : Tn) (w k : Nat) : List (List UInt8) := ((List.range k).filter fun s => T.nd (8 * w + s)).map sid
theorem neededK_step (T : Tn) (w k : Nat) : neededK T w (k + 1) = neededK T w k ++ (if T.nd (8 * w + k) then [sid k] else []) := by
 unfold neededK
 rw [List.range_succ, List.filter_append, List.map_append]
 congr 1
 rw [List.filter_cons]
 split <;> rfl
theorem neededK_len (T : Tn) (w k : Nat) : (neededK T w k).length ≤ k := by
 unfold neededK
 rw [List.length_map]
 exact Nat.le_trans (List.length_filter_le _ _) (by rw [List.length_range]; exact Nat.le_refl _)
theorem sid_len (s : Nat) : (sid s).length = 32 := by unfold sid idC; rw [List.length_replicate]
/-- A stripe's letter. -/
def sc (k : Nat) : UInt8 := UInt8.ofNat (97 + k)
theorem sc_sid (k : Nat) : idC (sc k) = sid k := rfl
theorem byte_sid {k : Nat} (h : k < 8) : Value.int .u8 ((97 + k : Nat) : Int) = B (sc k) := by
 unfold sc
 show Value.int .u8 _ = Value.int .u8 (((UInt8.ofNat (97 + k)).toNat : Nat) : Int)
 rw [UInt8.toNat_ofNat', Nat.mod_eq_of_lt (by omega)]
section
set_option maxRecDepth 100000
set_option maxHeartbeats 2000000
theorem known_any (w0 : World) (g : Nat) (T : Tn) (v : Nat → Value) (u : Nat) (w : World) (h : TM w0 w g T v) (hu : u < 3) :
  Calls Tryz.prog 53 #[.pointer (some ⟨g, 0, none⟩), .int .i64 (u : Int)] w fun e w' => ∃ A c, e = .returned (.slice A (T.known u).length c) ∧ LS rInt 1 8 w' A (T.known u).length c (T.known u) ∧ (∀ a, A = some a → ∃ l, BL w' a.block 3 l) ∧ Below w.heap.size w w' := by
 have H := Lib.hid h
 clear h
 go_enter Tryz.func53, Tryz.ntmps53
 go_wp2_with fail
 go_loopw [5, 6] (fun ov iv wr => ∃ (k : Nat) (z : Value), k ≤ 3 ∧ iv = .int .i64 (k : Int) ∧ z = ov ∧ Hid (OL rInt 1 3 w wr z (knownK T u k)) ∧ Hid (Below w.heap.size w wr)) (fun _ iv _ => 3 - (intOf iv).toNat)
 case atStart => exact ⟨0, _, by omega, rfl, rfl, Lib.hid (OL.nil _ _ _ _ _), Lib.hid (Below.refl _ _)⟩
 case round =>
  obtain ⟨k, z, hk, rfl, rfl, ho, hb⟩ := hrel
  obtain ⟨wx, hwx⟩ : ∃ x, x = wr := ⟨_, rfl⟩
  rw [← hwx] at ho hb ⊢
  clear hwx
  by_cases hlt : k < 3
  ·
   have q0 := (H.out.kept hb.out).cw hu hlt
   have q1 := (H.out.kept hb.out).ce hlt
   have HST := Lib.hid (knownK_step T u k)
   have HKL := Lib.hid (knownK_len T u k)
   cases c1 : T.wr (3 * u + k) with
   | false =>
    rw [c1] at q0 HST
    go_wp2_with fail
    go_roundw
    case rel => exact ⟨k + 1, _, by omega, by go_num, rfl, Lib.hid (by rw [HST.out]; simpa using ho.out), hb⟩
    case measure => simp [intOf]; omega
   | true =>
    rw [c1] at q0 HST
    cases c2 : (k == u) with
    | true =>
     have e1 : ((k : Int) == (u : Int)) = true := by rw [beq_iff_eq] at c2 ⊢; omega
     rw [c2] at HST
     go_wp2_with (first
      | ((with_reducible show wpList _ _ _ (⟨some 35, _, _, _, _, _⟩ :: _) _ _); refine wpList_bslice _ rfl 23 3 1 _ rfl #[(0, .int .i64 (k : Int))] (by rw [List.map_toArray]; rfl) [.int .i64 (k : Int)] (bslI _ _) ?_; intro w7 y1 y2 y3; have HO7 := Lib.hid (ho.out.kept y2); have HB7 := Lib.hid (below_thenB hb.out hb.out.size y2); have HG7 := Lib.hid y1; clear y1 y2 y3)
      | ((with_reducible show wpList _ _ _ (⟨some 36, _, _, _, _, _⟩ :: _) _ _); obtain ⟨iS, i1, i2, i3, i4⟩ := info_some infoI; obtain ⟨css, hC1, hC2, hC3, hC4, hC5⟩ := HO7.out; refine wpList_appRW _ rfl (.tmp 33) (.tmp 35) 23 3 1 iS _ rfl Tryz.underlying23 i1 i2 i3 rfl z _ _ rfl hC4 wx.heap.size [.int .i64 (k : Int)] rfl HG7.out rfl (one_val _ rfl) (by rw [i4]; have := HKL.out; omega) (by have := HKL.out; omega) ?_; intro v' w8 ap; have HO8 := Lib.hid (OL.push hC1 hC2 hC3 hC5 rfl rfl ⟨rfl, wf_small (by omega) (by omega)⟩ HB7.out.size ap); have HB8 : Hid (Below w.heap.size w w8) := Lib.hid (low_kp HB7.out ap.kp (fun i hi e => by have := hC5 i e; omega)); clear i1 i2 i3 i4 hC1 hC2 hC3 hC4 hC5 ap))
     go_roundw
     case rel => exact ⟨k + 1, _, by omega, by go_num, rfl, Lib.hid (by rw [HST.out]; exact HO8.out), HB8⟩
     case measure => simp [intOf]; omega
    | false =>
     have e1 : ((k : Int) == (u : Int)) = false := by rw [beq_eq_false_iff_ne] at c2 ⊢; omega
     rw [c2] at HST
     cases c3 : T.ex k with
     | false =>
      rw [c3] at q1 HST
      go_wp2_with (first
       | ((with_reducible show wpList _ _ _ (⟨some 35, _, _, _, _, _⟩ :: _) _ _); refine wpList_bslice _ rfl 23 3 1 _ rfl #[(0, .int .i64 (k : Int))] (by rw [List.map_toArray]; rfl) [.int .i64 (k : Int)] (bslI _ _) ?_; intro w7 y1 y2 y3; have HO7 := Lib.hid (ho.out.kept y2); have HB7 := Lib.hid (below_thenB hb.out hb.out.size y2); have HG7 := Lib.hid y1; clear y1 y2 y3)
       | ((with_reducible show wpList _ _ _ (⟨some 36, _, _, _, _, _⟩ :: _) _ _); obtain ⟨iS, i1, i2, i3, i4⟩ := info_some infoI; obtain ⟨css, hC1, hC2, hC3, hC4, hC5⟩ := HO7.out; refine wpList_appRW _ rfl (.tmp 33) (.tmp 35) 23 3 1 iS _ rfl Tryz.underlying23 i1 i2 i3 rfl z _ _ rfl hC4 wx.heap.size [.int .i64 (k : Int)] rfl HG7.out rfl (one_val _ rfl) (by rw [i4]; have := HKL.out; omega) (by have := HKL.out; omega) ?_; intro v' w8 ap; have HO8 := Lib.hid (OL.push hC1 hC2 hC3 hC5 rfl rfl ⟨rfl, wf_small (by omega) (by omega)⟩ HB7.out.size ap); have HB8 : Hid (Below w.heap.size w w8) := Lib.hid (low_kp HB7.out ap.kp (fun i hi e => by have := hC5 i e; omega)); clear i1 i2 i3 i4 hC1 hC2 hC3 hC4 hC5 ap))
      go_roundw
      case rel => exact ⟨k + 1, _, by omega, by go_num, rfl, Lib.hid (by rw [HST.out]; exact HO8.out), HB8⟩
      case measure => simp [intOf]; omega
     | true =>
      rw [c3] at q1 HST
      go_wp2_with fail
      go_roundw
      case rel => exact ⟨k + 1, _, by omega, by go_num, rfl, Lib.hid (by rw [HST.out]; simpa using ho.out), hb⟩
      case measure => simp [intOf]; omega
  ·
   obtain rfl : k = 3 := by omega
   obtain ⟨A, c, e9, hls⟩ := ho.out.ls (b := 8) stay_int hb.out (by have := knownK_len T u 3; unfold lim; omega)
   have HTY := Lib.hid (fun a (ha : A = some a) => ho.out.ty e9 ha)
   subst e9
   have HLS := Lib.hid hls
   clear hls
   go_wp2_with fail
   go_ret
   exact ⟨A, c, rfl, HLS.out, HTY.out, hb.out⟩
theorem needed_any (w0 : World) (g : Nat) (T : Tn) (v : Nat → Value) (u : Nat) (w : World) (h : TM w0 w g T v) (hu : u < 3) :
  Calls Tryz.prog 22 #[.pointer (some ⟨g, 0, none⟩), .int .i64 (u : Int)] w fun e w' => ∃ A c, e = .returned (.slice A (T.needed u).length c) ∧ LS rStr 1 16 w' A (T.needed u).length c (T.needed u) ∧ Below w.heap.size w w' := by
 have H := Lib.hid h
 clear h
 go_enter Tryz.func22, Tryz.ntmps22
 go_wp2_with fail
 go_loopw [5, 6] (fun ov iv wr => ∃ (k : Nat) (z : Value), k ≤ 8 ∧ iv = .int .i64 (k : Int) ∧ z = ov ∧ Hid (OL rStr 1 9 w wr z (neededK T u k)) ∧ Hid (Below w.heap.size w wr)) (fun _ iv _ => 8 - (intOf iv).toNat)
 case atStart => exact ⟨0, _, by omega, rfl, rfl, Lib.hid (OL.nil _ _ _ _ _), Lib.hid (Below.refl _ _)⟩
 case round =>
  obtain ⟨k, z, hk, rfl, rfl, ho, hb⟩ := hrel
  obtain ⟨wx, hwx⟩ : ∃ x, x = wr := ⟨_, rfl⟩
  rw [← hwx] at ho hb ⊢
  clear hwx
  by_cases hlt : k < 8
  ·
   have q0 := (H.out.kept hb.out).cn hu hlt
   have HST := Lib.hid (neededK_step T u k)
   have HKL := Lib.hid (neededK_len T u k)
   cases c1 : T.nd (8 * u + k) with
   | false =>
    rw [c1] at q0 HST
    go_wp2_with fail
    go_roundw
    case rel => exact ⟨k + 1, _, by omega, by go_num, rfl, Lib.hid (by rw [HST.out]; simpa using ho.out), hb⟩
    case measure => simp [intOf]; omega
   | true =>
    rw [c1] at q0 HST
    have HS := Lib.hid (sid_len k)
    go_wp2_with (first
     | ((with_reducible show wpList _ _ _ (⟨some 22, _, _, _, _, _⟩ :: _) _ _); refine wpList_convN _ rfl (.tmp 21) 3 5 rfl _ .i64 .u8 Tryz.underlying3 Tryz.underlying5 (97 + k) _ rfl (by push_cast; go_num) (by show ((97 + k : Nat) : Int) % 256 = _; omega) ?_; rw [byte_sid hlt])
     | (go_at_call 37; refine (id_any (sc k) wx).mono ?_; rintro e w6 ⟨rfl, b1⟩; rw [sc_sid]; have HO6 := Lib.hid (ho.out.kept b1); have HB6 := Lib.hid (below_thenB hb.out hb.out.size b1); clear b1)
     | ((with_reducible show wpList _ _ _ (⟨some 24, _, _, _, _, _⟩ :: _) _ _); refine wpList_bslice _ rfl 27 9 1 _ rfl #[(0, .string (strB (sid k)))] (by rw [List.map_toArray]; rfl) [.string (strB (sid k))] (bslStr _ _) ?_; intro w7 y1 y2 y3; have HO7 := Lib.hid (HO6.out.kept y2); have HB7 := Lib.hid (below_thenB HB6.out HB6.out.size y2); have HG7 := Lib.hid y1; clear y1 y2 y3)
     | ((with_reducible show wpList _ _ _ (⟨some 25, _, _, _, _, _⟩ :: _) _ _); obtain ⟨iS, i1, i2, i3, i4⟩ := info_some infoStr; obtain ⟨css, hC1, hC2, hC3, hC4, hC5⟩ := HO7.out; refine wpList_appRW _ rfl (.tmp 19) (.tmp 24) 27 9 1 iS _ rfl Tryz.underlying27 i1 i2 i3 rfl z _ _ rfl hC4 w6.heap.size [.string (strB (sid k))] rfl HG7.out rfl (one_val _ rfl) (by rw [i4]; have := HKL.out; omega) (by have := HKL.out; omega) ?_; intro v' w8 ap; have HO8 := Lib.hid (OL.push hC1 hC2 hC3 hC5 rfl rfl ⟨rfl, by rw [HS.out]; decide⟩ HB7.out.size ap); have HB8 : Hid (Below w.heap.size w w8) := Lib.hid (low_kp HB7.out ap.kp (fun i hi e => by have := hC5 i e; omega)); clear i1 i2 i3 i4 hC1 hC2 hC3 hC4 hC5 ap))
    go_roundw
    case rel => exact ⟨k + 1, _, by omega, by go_num, rfl, Lib.hid (by rw [HST.out]; exact HO8.out), HB8⟩
    case measure => simp [intOf]; omega
  ·
   obtain rfl : k = 8 := by omega
   obtain ⟨A, c, rfl, hls⟩ := ho.out.ls (b := 16) stay_str hb.out (by have := neededK_len T u 8; unfold lim; omega)
   have HLS := Lib.hid hls
   clear hls
   go_wp2_with fail
   go_ret
   exact ⟨A, c, rfl, HLS.out, hb.out⟩
theorem view_any (w0 : World) (g : Nat) (T : Tn) (v : Nat → Value) (u : Nat) (w : World) (h : TM w0 w g T v) (hi : InvL T) (hl : T.all.length ≤ 10000) (hu : u < 3) :
  Calls Tryz.prog 52 #[.pointer (some ⟨g, 0, none⟩), .int .i64 (u : Int)] w fun e w' => ∃ A c, e = .returned (.slice A (T.view u).length c) ∧ LS rEnT 6 72 w' A (T.view u).length c (T.view u) ∧ Below w.heap.size w w' := by
 have H := Lib.hid h
 have HI := Lib.hid hi
 have HL := Lib.hid hl
 clear h hi hl
 go_enter Tryz.func52, Tryz.ntmps52
 go_wp2_with fail
 go_loopw [5, 6] (fun ov iv wr => ∃ (k : Nat) (z : Value), k ≤ 3 ∧ iv = .int .i64 (k : Int) ∧ z = ov ∧ Hid (OL rEnT 6 33 w wr z (viewK T u k)) ∧ Hid (Below w.heap.size w wr)) (fun _ iv _ => 3 - (intOf iv).toNat)
 case atStart => exact ⟨0, _, by omega, rfl, rfl, Lib.hid (OL.nil _ _ _ _ _), Lib.hid (Below.refl _ _)⟩
 case round =>
  obtain ⟨k, z, hk, rfl, rfl, ho, hb⟩ := hrel
  obtain ⟨wx, hwx⟩ : ∃ x, x = wr := ⟨_, rfl⟩
  rw [← hwx] at ho hb ⊢
  clear hwx
  by_cases hlt : k < 3
  ·
   obtain ⟨m, hm⟩ : ∃ m, m = T.vw (3 * u + k) := ⟨_, rfl⟩
   obtain ⟨n, hn⟩ : ∃ n, n = (T.lg k).length := ⟨_, rfl⟩
   obtain ⟨A, c, hv, hls⟩ := H.out.ls hlt (Nat.le_trans (lg_len hlt) (Nat.le_trans HL.out (by decide)))
   rw [← hn] at hv hls
   have hmn : m ≤ n := by rw [hm, hn]; exact HI.out.vle u hu k hlt
   have q0 : wx.drew.cell? ⟨g, k, none⟩ = some (.slice A n c) := by rw [← hv]; exact (H.out.kept hb.out).drew.cl hlt
   have q1 : wx.drew.cell? ⟨g, 3 + u * 3 + k, none⟩ = some (.int .i64 (m : Int)) := by rw [hm]; exact (H.out.kept hb.out).drew.cv hu hlt
   have HPRE : Hid (LS rEnT 6 72 w A m c ((T.lg k).take m)) := Lib.hid (hls.pre hmn)
   have HNC : Hid (n ≤ c) := Lib.hid hls.2.1
   have HST : Hid (viewK T u (k + 1) = viewK T u k ++ (T.lg k).take m) := Lib.hid (by rw [hm]; exact viewK_step T u k)
   have HVL : Hid ((viewK T u k).length + m ≤ 10000) := Lib.hid (by
    have h1 := viewK_len T u (k + 1) (by omega)
    have h2 := HL.out
    rw [HST.out, List.length_append, List.length_take] at h1
    omega)
   clear hm hn hv hls
   have hu' : (u : Int) < 3 := by omega
   have hk' : (k : Int) < 3 := by omega
   go_wp2_with fail
   refine Text.wp_region_text (fun _ => True) [(0, 4), (1, 4), (2, 4), (3, 4), (4, 4), (5, 4), (7, 4), (8, 4), (9, 4), (10, 4), (11, 4), (12, 4), (13, 4), (6, 1), (14, 1), (15, 0), (16, 2), (17, 4)] (by kernel_rfl) (by kernel_rfl) (fun _ _ _ _ _ h => h) (trivial) ?_
   iterate 13 (refine Text.purek rfl rfl (fun K hK => ⟨_, fun w' => by go_simp <;> rfl, ?_⟩); go_simp; refine hK _ ?_; clear hK K)
   iterate 2 (refine Text.readk rfl rfl (fun K hK => ⟨_, by go_simp <;> rfl, ?_⟩); go_simp; refine hK _ ?_; clear hK K)
   refine Text.heldk rfl rfl (fun K hK => ?_)
   refine ⟨_, fun w' _ => exec_preM (.tmp 17) (.tmp 25) 22 33 6 rfl Tryz.underlying22 (szEn _) _ n c m rfl (by go_simp) hmn HNC.out, ?_⟩
   go_simp
   refine hK _ ?_
   clear hK K
   refine Text.eff rfl rfl (fun K hK => ?_)
   obtain ⟨iS, i1, i2, i3, i4⟩ := info_some infoEn
   refine wp_appOL2 _ (.tmp 11) (.tmp 26) iS _ rfl Tryz.underlying22 i1 i2 i3 rfl _ rfl (ho.out.kept (Below.refl _ _).drew) hb.out.drew rfl HPRE.out (fun _ _ h => len_ent _ _ h) (fun _ _ h => ones_ent _ _ h) (by rw [i4]; have := HVL.out; omega) (by have := HVL.out; omega) (fun v4 w4 q1 q2 q3 => ?_)
   have HO4 := Lib.hid q1
   have HB4 := Lib.hid q2
   refine hK _ _ trivial ?_
   clear hK K q1 q2 q3 i1 i2 i3 i4
   (refine Text.purek rfl rfl (fun K hK => ⟨_, fun w' => by go_simp <;> rfl, ?_⟩); go_simp; refine hK _ ?_; clear hK K)
   refine Text.done ?_
   go_wp2_with fail
   go_roundw
   case rel => exact ⟨k + 1, _, by omega, by go_num, rfl, Lib.hid (by rw [HST.out]; exact HO4.out), HB4⟩
   case measure => simp [intOf]; omega
  ·
   obtain rfl : k = 3 := by omega
   have ho3 := ho.out
   rw [viewK_3] at ho3
   obtain ⟨A, c, rfl, hls⟩ := ho3.ls (b := 72) stay_ent hb.out (by have := view_len T u; have := HL.out; unfold lim; omega)
   have HLS := Lib.hid hls
   clear hls ho3
   go_wp2_with fail
   go_ret
   exact ⟨A, c, rfl, HLS.out, hb.out⟩
end
end Go.Proofs.YtfonbliomokffaaGreat
