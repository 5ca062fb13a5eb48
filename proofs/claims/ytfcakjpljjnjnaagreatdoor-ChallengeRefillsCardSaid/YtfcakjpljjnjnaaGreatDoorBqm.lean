/- stripe.Make, for arguments that are valid. -/
import Derived.Test.YtfcakjpljjnjnaaGreatDoorVgm
namespace Go.Proofs.YtfcakjpljjnjnaaGreatDoor
open Go Go.RowKit Go.Shelf Gf Sha

theorem results_at3 {P : Program} (w : World) {t : TypeId} {n : Nat} {fn : Func} {p q r : Tmp} (hf : fn.results = #[.cell p t, .tmp q, .tmp r]) (h : Agg P t n = true) {tmps : Array Value} {g o : Nat} {ms : List Value} (hp : tmps.getD p undef = .pointer (some ⟨g, o, none⟩)) (hm : At w g o ms) (hn : ms.length = n) :
  (results fn tmps).run P w = .ok (.tuple #[.agg ms.toArray, tmps.getD q undef, tmps.getD r undef]) w := by
 have hp' : tmps[p]?.getD undef = .pointer (some ⟨g, o, none⟩) := by simpa using hp
 simp [results, hf, hp', asAddr, run_loadVar_at w h hm hn]
/-- A block of zero values holds no bytes and no sums: a store to it changes no piece. -/
theorem pe_storeG {w w' : World} {g : Nat} {t : TypeId} {zs cs : List Value} {y : Pe} (hz : ∀ v ∈ zs, v = .string (strB []) ∨ v = .int .i64 0 ∨ v = .slice none 0 0) (h : rPe w cs y) (hs : ∀ x ∈ y.sm, x.length = 32) (hb : BL w g t zs) (hk : Kp (fun b => b = g) w w') : rPe w' cs y := by
 have hin : ∀ {k : Nat} {v : Value}, w.cell? ⟨g, k, none⟩ = some v → v = .string (strB []) ∨ v = .int .i64 0 ∨ v = .slice none 0 0 := fun {k v} hv => by
  rw [Blk.cell hb] at hv
  exact hz v (List.mem_of_getElem? (by simpa using hv : zs[k]? = some v))
 obtain ⟨A, n, c, B', m, d, rfl, hbs, hts, r⟩ := h
 refine ⟨A, n, c, B', m, d, rfl, ⟨hbs.1, hbs.2.1, hbs.2.2.1, fun k hk9 => ?_⟩, ⟨hts.1, hts.2.1, hts.2.2.1, fun k hk9 => ?_⟩, r⟩
 ·
  obtain ⟨g', o, e, hc⟩ := hbs.2.2.2 k hk9
  refine ⟨g', o, e, hk.cell hc (fun e2 => ?_)⟩
  have e3 : g' = g := e2
  subst e3
  rcases hin hc with h9 | h9 | h9 <;> cases h9
 ·
  obtain ⟨g', o, e, hc⟩ := hts.2.2.2 k hk9
  refine ⟨g', o, e, hk.cell hc (fun e2 => ?_)⟩
  have e3 : g' = g := e2
  subst e3
  rcases hin hc with h9 | h9 | h9
  ·
   injection h9 with h9
   have hk8 : k < y.sm.length := by rw [hts.1]; exact hk9
   have h8 := hs _ (List.getElem_mem hk8)
   rw [gR_eq hk8] at h9
   have h7 := congrArg ByteArray.size h9
   rw [strB_size, strB_size, h8] at h7
   cases h7
  ·
   cases h9
  ·
   cases h9
theorem spZ_zero : ∀ v ∈ spZ, v = .string (strB []) ∨ v = .int .i64 0 ∨ v = .slice none 0 0 := fun v hv => by
 simp only [spZ, List.mem_cons, List.not_mem_nil, or_false] at hv
 rcases hv with h9 | h9 | h9 | h9 | h9 | h9 <;> simp [h9]
theorem LS.storeG {w w' : World} {g n c : Nat} {t : TypeId} {zs : List Value} {A : Option Addr} {L : List Pe} (hz : ∀ v ∈ zs, v = .string (strB []) ∨ v = .int .i64 0 ∨ v = .slice none 0 0) (h : LS rPe 4 72 w A n c L) (hA : ∀ a, A = some a → a.block ≠ g) (hs : ∀ y ∈ L, ∀ x ∈ y.sm, x.length = 32) (hb : BL w g t zs) (hk : Kp (fun b => b = g) w w') : LS rPe 4 72 w' A n c L :=
 ⟨h.1, h.2.1, h.2.2.1, fun k hk1 => let ⟨g', o, cs, e, h1, h2⟩ := h.2.2.2 k hk1; ⟨g', o, cs, e, fun j v hj => hk.cell (h1 j v hj) (show ¬ g' = g from hA ⟨g', o, none⟩ e), pe_storeG hz h2 (hs _ (List.getElem_mem hk1)) hb hk⟩⟩
theorem LS.kpf {w w' : World} {A : Option Addr} {n c : Nat} {l : List Rf} {S : Nat → Prop} (h : LS rRf 3 32 w A n c l) (hk : Kp S w w') (hn : ∀ a, A = some a → ¬ S a.block) : LS rRf 3 32 w' A n c l :=
 ⟨h.1, h.2.1, h.2.2.1, fun k hk1 => let ⟨g, o, cs, e, h1, h2⟩ := h.2.2.2 k hk1; ⟨g, o, cs, e, fun j v hj => hk.cell (h1 j v hj) (show ¬ S g from hn ⟨g, o, none⟩ e), h2⟩⟩
theorem bldSp (id : List UInt8) (v b d t : Int) (A : Option Addr) (n c : Nat) (w : World) : (Instr.build 26 #[(0, .string (strB id)), (1, .int .i64 v), (2, .int .i64 b), (3, .int .i64 d), (4, .int .i64 t), (5, .slice A n c)]).run Tryz.prog w = .ok (.agg [.string (strB id), .int .i64 v, .int .i64 b, .int .i64 d, .int .i64 t, .slice A n c].toArray) w := by kernel_rfl
theorem pcsL_sm {rows : List (List UInt8)} {L : Nat} (hr : Rect rows L) (hL : L ≤ 65536) : ∀ y ∈ pcsL rows, ∀ x ∈ y.sm, x.length = 32 := fun y hy => by
 unfold pcsL at hy
 obtain ⟨i, _, rfl⟩ := List.mem_map.1 hy
 exact sums_lv (rect_le hr hL)
def MakR (s : Sp) (L : List Pe) (w : World) (e : Ending) (w' : World) : Prop := ∃ cs v, e = .returned (.tuple #[.agg cs.toArray, v, .int .i64 0]) ∧ rSp w' cs s ∧ (∃ A c, v = .slice A L.length c ∧ LS rPe 4 72 w' A L.length c L) ∧ Below w.heap.size w w'
section
set_option maxRecDepth 100000
set_option maxHeartbeats 8000000
theorem make_any (v : Int) (d t C : Nat) (R : Option Addr) (n e : Nat) (l : List Rf) (A : Option Addr) (c : Nat) (m : List (List UInt8)) (w : World) (hv0 : 0 ≤ v) (hv : v ≤ 11) (hd : 1 ≤ d) (hd8 : d ≤ 8) (hdt : d ≤ t) (ht : t ≤ 16) (hl : LS rRf 3 32 w R n e l) (h1 : 1 ≤ n) (hn : n ≤ d) (hok : okB rfB rfN l = true) (hc : ∀ r ∈ l, clsR r = (C : Int)) (hm : MS w A n c m) (hr : Rect m C) (hC1 : 1 ≤ C) (hC : C ≤ 65536) (hT : Tabs w) :
  Calls Tryz.prog 11 #[.int .i64 v, .int .i64 (d : Int), .int .i64 (t : Int), .slice R n e, .slice A n c] w (MakR ⟨rt (sumsL (encM d t m C)), v, (C : Int), (d : Int), (t : Int), l⟩ (pcsL (encM d t m C)) w) := by
 have HL := Lib.hid hl
 have HM := Lib.hid hm
 have HT := Lib.hid hT
 have HOK := Lib.hid hok
 have HC := Lib.hid hc
 have HR := Lib.hid hr
 have HCD : Hid (cdB (d : Int) (t : Int) = true) := Lib.hid (by unfold cdB; simp only [Bool.and_eq_true, decide_eq_true_eq]; omega)
 have f1 : decide (v < 0) = false := decide_eq_false (by omega)
 have f2 : decide (v > 11) = false := decide_eq_false (by omega)
 have f3 : decide ((n : Int) < 1) = false := decide_eq_false (by omega)
 have f3' : decide (n < 1) = false := decide_eq_false (by omega)
 have f4 : decide ((n : Int) > (d : Int)) = false := decide_eq_false (by omega)
 have f4' : decide (n > d) = false := decide_eq_false (by omega)
 have f5 : ((n : Int) != (n : Int)) = false := by simp
 have f6 : ((C : Int) != (C : Int)) = false := by simp
 have h0n : 0 < n := h1
 obtain ⟨r0, g, o, cs0, hr0, eR, hat0, hrr0⟩ := hl.at_ stay_rf (Below.refl _ _) h0n
 have e0 : cs0 = rfL r0 := hrr0.1
 subst e0
 have hb0 := okB_at hok hr0
 obtain ⟨k0, hk0, hk1⟩ := rfB_size hb0
 have hcl0 : (clsOf (needN k0) : Int) = (C : Int) := by
  have h9 := hc r0 (List.mem_of_getElem? hr0)
  rw [clsR, hk0, Int.toNat_natCast] at h9
  exact h9
 have q0 : w.cell? ⟨g, o + 2, none⟩ = some (.int .i64 (k0 : Int)) := by
  rw [← hk0]
  have h9 := hat0 2 _ rfl
  rw [Nat.zero_mul, Nat.add_zero] at h9
  exact h9
 have HQ0 := Lib.hid q0
 have HCL0 := Lib.hid hcl0
 have HK1 := Lib.hid hk1
 subst eR
 have hone : e8oneB m = true := oneB_true (fun i hi => by
  unfold okRow
  have h8 := hr i hi
  have h9 := hr 0 (by rw [hm.1]; omega)
  exact decide_eq_true ⟨by omega, by omega, by omega⟩)
 have HONE := Lib.hid hone
 obtain ⟨rows, hrows⟩ : ∃ z, z = encM d t m C := ⟨_, rfl⟩
 have hrect : Rect rows C := by
  rw [hrows, encM_eq hr (by rw [hm.1]; exact hn)]
  exact rencM_rect _ _ _ _
 have HSM := Lib.hid (pcsL_sm hrect hC)
 have HC9 := Lib.hid (fun (wq : World) (hq : Below w.heap.size w wq) => scode_any d t n c A m C wq hd hd8 hdt ht (hm.kept hq) h0n hn hone hr (hr 0 (by rw [hm.1]; omega)) hC1 hC (hT.kept hq))
 rw [← hrows] at HC9 ⊢
 have HRF : Hid (∀ k r, l[k]? = some r → rfB r = true ∧ clsR r = (C : Int)) := Lib.hid (fun k r h => ⟨okB_at hok h, hc r (List.mem_of_getElem? h)⟩)
 have HPL : Hid ((pcsL rows).length ≤ 16) := Lib.hid (by unfold pcsL; rw [List.length_map, List.length_range, hrows, encM_length]; exact ht)
 have HW : Hid ((rt (sumsL rows)).length ≤ reachBytes ∧ wfI v ∧ wfI (C : Int) ∧ wfI (d : Int) ∧ wfI (t : Int)) := Lib.hid ⟨by
  have hrl : rows.length = t := by rw [hrows, encM_length]
  rw [rt_length (sums_lv (rect_le hrect hC)) (by unfold sumsL; rw [List.length_map, hrl]; omega) (by unfold sumsL; rw [List.length_map, hrl]; omega)]
  exact reach32, wfI_of (by omega) (by omega), wfI_of (by omega) (by omega), wfI_of (by omega) (by omega), wfI_of (by omega) (by omega)⟩
 clear hl hm hT hok hc hr hone hrows hrect hr0 hat0 hrr0 hb0 hk0 hcl0 q0 hk1
 go_enter Tryz.func11, Tryz.ntmps11
 go_wp2_with (first
  | ((with_reducible show OpW 10); refine wpList_alloc _ rfl 26 rfl spZ spZero ?_; intro w1 a1 a2 a3; have HV1 := Lib.hid a1; have HB1 := Lib.hid a2; clear a1 a2 a3)
  | (go_at_call 30; refine (code_any (d : Int) (t : Int) w1).mono ?_; rintro e9 w9 ⟨rfl, hw⟩; rw [hw]; clear hw w9; rw [HCD.out])
  | (go_at_call 31; refine (validRefs_any (some ⟨g, o, none⟩) n e l w1 (HL.out.kept stay_rf HB1.out)).mono ?_; rintro e9 w2 ⟨rfl, r2⟩; rw [HOK.out]; have HB2 := Lib.hid (below_then HB1.out r2); have HV2 := Lib.hid (HV1.out.kept r2); have q0 := cell_kept HB2.out HQ0.out; clear r2)
  | (go_at_call 32; refine (class_any k0 w2 HK1.out).mono ?_; rintro e9 w3 ⟨rfl, r2⟩; rw [HCL0.out]; have HB3 := Lib.hid (below_then HB2.out r2); have HV3 := Lib.hid (HV2.out.kept r2); clear r2))
 go_loopw [66] (fun iv wr => ∃ k : Nat, k ≤ n ∧ iv = .int .i64 (k : Int) ∧ Hid (Below w3.heap.size w3 wr)) (fun iv _ => n - (intOf iv).toNat)
 case atStart => exact ⟨0, by omega, rfl, Lib.hid (Below.refl _ _)⟩
 case round =>
  obtain ⟨k, hk, rfl, hb⟩ := hrel
  obtain ⟨wx, hwx⟩ : ∃ x, x = wr := ⟨_, rfl⟩
  rw [← hwx] at hb ⊢
  clear hwx
  have HBX := Lib.hid (below_then HB3.out hb.out)
  by_cases hlt : k < n
  ·
   obtain ⟨r, g', o', cs9, hrk, ea, hat, hrr⟩ := HL.out.at_ stay_rf HBX.out hlt
   have e9 : cs9 = rfL r := hrr.1
   cases ea
   subst e9
   have HA := Lib.hid hat
   have HRR := Lib.hid (HRF.out k r hrk)
   obtain ⟨g8, o8, A8, n8, c8, e8, q8, hb8⟩ := (HM.out.kept HBX.out).2.2.2 k hlt
   have hn8 : n8 = C := by rw [← hb8.1]; exact HR.out k (by rw [HM.out.1]; exact hlt)
   subst e8
   subst hn8
   clear hat hrr hb8 hrk
   go_wp2_with (first
    | ((with_reducible show OpW 70); refine wpList_loadv _ rfl 44 (.tmp 69) rfl 3 (by kernel_rfl) g (o + k * 3) (rfL r) (by go_simp) HA.out rfl ?_)
    | ((with_reducible show OpW 16); refine wpList_alloc _ rfl 44 rfl rfZ rfZero ?_; intro w3 a1 a2 a3; have HV3 := Lib.hid a1; have HX3 := Lib.hid a2; clear a1 a2 a3)
    | ((with_reducible show OpN); refine wpList_storev _ rfl 44 (.tmp 16) (.tmp 70) rfl 3 (by kernel_rfl) wx.heap.size 0 _ rfZ (rfL r) rfl rfl HV3.out rfl (one_rf r) (by decide) ?_; intro w4 a1 a2 a3; have HV4 : Hid (BL w4 wx.heap.size 44 (rfL r)) := Lib.hid a1; have HX4 : Hid (Below wx.heap.size wx w4) := Lib.hid (((Kp.of_below (S := fun _ => False) HX3.out).after a2 (fun i hi e => by omega)).below (Nat.le_refl _) (fun _ h => h.elim)); clear a1 a2 a3; have q8 := cell_kept HX4.out q8)
    | ((with_reducible show OpW 71); refine wpList_loadv _ rfl 44 (.tmp 16) rfl 3 (by kernel_rfl) wx.heap.size 0 (rfL r) rfl (BL.all HV4.out) rfl ?_)
    | (go_at_call 33; refine (hasClass_any r (n8 : Int) w4 HRR.out.1).mono ?_; rintro e9 w5 ⟨rfl, r2⟩; rw [decide_eq_true HRR.out.2]; have HX5 := Lib.hid (below_then HX4.out r2); have q8 := cell_kept r2 q8; clear r2))
   go_roundw
   case rel => exact ⟨k + 1, by omega, by go_num, Lib.hid (below_then hb.out HX5.out)⟩
   case measure => simp [intOf]; omega
  ·
   obtain rfl : k = n := by omega
   have HVX := Lib.hid (HV3.out.kept hb.out)
   have HSX : Hid (w.heap.size < wx.heap.size) := Lib.hid HVX.out.lt
   go_wp2_with (first
    | (go_at_call 34; refine (HC9.out wx HBX.out).mono ?_; rintro e9 w4 ⟨v2, rfl, r1, r2⟩; have HO4 := Lib.hid r1; have HB4 := Lib.hid (below_then HBX.out r2); have HV4 := Lib.hid (HVX.out.kept r2); clear r1 r2)
    | (go_at_call 35; refine (clone_rf (some ⟨g, o, none⟩) k e l w4 (HL.out.kept stay_rf HB4.out)).mono ?_; rintro e9 w5 ⟨Ac, cc, rfl, r1, r2⟩; have HC5 := Lib.hid r1; have HX5 := Lib.hid r2; have HB5 := Lib.hid (below_then HB4.out r2); have HV5 := Lib.hid (HV4.out.kept r2); have HO5 := Lib.hid (HO4.out.kept r2); clear r1 r2)
    | ((with_reducible show OpW 105); refine wpList_build _ rfl 26 _ rfl #[(0, .string (strB (rt (sumsL rows)))), (1, .int .i64 v), (2, .int .i64 (C : Int)), (3, .int .i64 (d : Int)), (4, .int .i64 (t : Int)), (5, .slice Ac k cc)] (by rw [List.map_toArray]; rfl) (.agg [.string (strB (rt (sumsL rows))), .int .i64 v, .int .i64 (C : Int), .int .i64 (d : Int), .int .i64 (t : Int), .slice Ac k cc].toArray) (by exact bldSp (rt (sumsL rows)) v (C : Int) (d : Int) (t : Int) Ac k cc _) ?_)
    | ((with_reducible show OpW 20); refine wpList_alloc _ rfl 26 rfl spZ spZero ?_; intro w6 a1 a2 a3; have HS6 := Lib.hid a1; have HX6 := Lib.hid a2; clear a1 a2 a3)
    | ((with_reducible show OpN); refine wpList_storev _ rfl 26 (.tmp 20) (.tmp 105) rfl 6 (by kernel_rfl) w5.heap.size 0 _ spZ [.string (strB (rt (sumsL rows))), .int .i64 v, .int .i64 (C : Int), .int .i64 (d : Int), .int .i64 (t : Int), .slice Ac k cc] rfl rfl HS6.out rfl (one_val _ rfl) (by decide) ?_; intro w7 a1 a2 a3; have HS7 : Hid (BL w7 w5.heap.size 26 [.string (strB (rt (sumsL rows))), .int .i64 v, .int .i64 (C : Int), .int .i64 (d : Int), .int .i64 (t : Int), .slice Ac k cc]) := Lib.hid a1; have HX7 : Hid (Below w5.heap.size w5 w7) := Lib.hid (low_kp HX6.out a2 (fun i hi e => by omega)); have HB7 := Lib.hid (below_then HB5.out HX7.out); have HV7 := Lib.hid (HV5.out.kept HX7.out); have HO7 := Lib.hid (HO5.out.kept HX7.out); clear a1 a2 a3)
    | ((with_reducible show OpW 106); refine wpList_loadv _ rfl 26 (.tmp 20) rfl 6 (by kernel_rfl) w5.heap.size 0 [.string (strB (rt (sumsL rows))), .int .i64 v, .int .i64 (C : Int), .int .i64 (d : Int), .int .i64 (t : Int), .slice Ac k cc] rfl (BL.all HS7.out) rfl ?_)
    | ((with_reducible show OpN); refine wpList_storev _ rfl 26 (.tmp 10) (.tmp 106) rfl 6 (by kernel_rfl) w.heap.size 0 _ spZ [.string (strB (rt (sumsL rows))), .int .i64 v, .int .i64 (C : Int), .int .i64 (d : Int), .int .i64 (t : Int), .slice Ac k cc] rfl rfl HV7.out rfl (one_val _ rfl) (by decide) ?_; intro w8 a1 a2 a3; have HS8 : Hid (BL w8 w.heap.size 26 [.string (strB (rt (sumsL rows))), .int .i64 v, .int .i64 (C : Int), .int .i64 (d : Int), .int .i64 (t : Int), .slice Ac k cc]) := Lib.hid a1; have HK8 := Lib.hid a2; have HB8 : Hid (Below w.heap.size w w8) := Lib.hid (low_kp HB7.out a2 (fun i hi e => by omega)); clear a1 a2 a3))
   obtain ⟨Ap, cp, ev, hlp⟩ := HO7.out.ls (b := 72) (by have := HPL.out; unfold lim; omega)
   have hap : ∀ a, Ap = some a → a.block ≠ w.heap.size := fun a ea e2 => by
    obtain ⟨_, _, _, _, _, h5⟩ := HO7.out
    have h9 := h5 a.block (by rw [ev, ea]; rfl)
    have := HBX.out.size
    have := HSX.out
    omega
   have hrp := LS.storeG spZ_zero hlp hap HSM.out HV7.out HK8.out
   obtain ⟨Ad, cd, ev2, hlr⟩ := HC5.out.ls (b := 32) stay_rf HX5.out (by rw [HL.out.1]; have := HL.out.2.2.1; omega)
   rw [HL.out.1] at ev2 hlr
   cases ev2
   have hlr8 := (hlr.kept stay_rf HX7.out).kpf HK8.out (fun a ea e2 => by
    obtain ⟨_, _, _, _, _, h5⟩ := HC5.out
    have h9 := h5 a.block (by rw [ea]; rfl)
    have := HV4.out.lt
    have e3 : a.block = w.heap.size := e2
    omega)
   exact bodyPost_ret (results_at3 w8 Tryz.results11 (n := 6) (by kernel_rfl) (g := w.heap.size) (o := 0) rfl (ms := [.string (strB (rt (sumsL rows))), .int .i64 v, .int .i64 (C : Int), .int .i64 (d : Int), .int .i64 (t : Int), .slice Ac k cc]) (BL.all HS8.out) rfl) rfl ⟨_, v2, rfl, ⟨Ac, k, cc, rfl, hlr8, HW.out⟩, ⟨Ap, cp, ev, hrp⟩, HB8.out⟩
end
end Go.Proofs.YtfcakjpljjnjnaaGreatDoor
