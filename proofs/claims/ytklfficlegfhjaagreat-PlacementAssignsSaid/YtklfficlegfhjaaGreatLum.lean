/- The reference's Free. -/
import Derived.Test.YtklfficlegfhjaaGreatLtm
import Derived.Test.YtklfficlegfhjaaGreatLhm
namespace Go.Proofs.YtklfficlegfhjaaGreat
open Go Go.RowKit Gf Sha

abbrev frB (ws : List Wt) (ps : List Pl) (y : Wt) (h : Hd) : Bool := decide (usedI ws ps h.dv + y.sz ≤ h.qt) && !hasAt ps y.st h.dv
theorem fr_next {L : List Hd} {F : Hd → Bool} {i : Nat} {x : Hd} (h : L[i]? = some x) : ((L.take (i + 1)).filter F).map Hd.dv = ((L.take i).filter F).map Hd.dv ++ (if F x = true then [x.dv] else []) := by
 rw [take_next h, List.filter_append, List.map_append]
 cases h1 : F x <;> simp [h1]
theorem LS.apart {α : Type} {R : Rdg α} {s b n c : Nat} {w : World} {A : Option Addr} {L : List α} {g : Nat} {te : TypeId} (h : LS R s b w A n c L) (hn : 0 < n) (hlen : ∀ cs x, R w cs x → cs.length = s) (hs : 0 < s) : ∀ a, A = some a → a.block < w.heap.size ∧ (BL w g te [] → g ≠ a.block) := fun a ha => by
 obtain ⟨g', o', cs, e, h1, h2⟩ := h.2.2.2 0 (by rw [h.1]; exact hn)
 rw [ha] at e
 have hl := hlen _ _ h2
 have hc := h1 0 cs[0] (by rw [List.getElem?_eq_getElem (by omega)])
 have e' : a = ⟨g', o', none⟩ := Option.some.inj e
 subst e'
 refine ⟨?_, fun hb e => ?_⟩
 ·
  exact cell_lt (p := ⟨g', o' + 0 * s + 0, none⟩) hc
 ·
  subst e
  rw [Blk.cell hb] at hc
  simp at hc
set_option maxRecDepth 100000 in
set_option maxHeartbeats 4000000 in
theorem rfree_any (A : Option Addr) (n c : Nat) (ws : List Wt) (B : Option Addr) (m d : Nat) (hs : List Hd) (C : Option Addr) (p q : Nat) (ps : List Pl) (y : Wt) (w : World) (h : LS rWt 4 40 w A n c ws) (hh : LS rHd 3 24 w B m d hs) (hp : LS rPl 3 32 w C p q ps) (hw : wantsB ws = true) (hy : wtB y = true) (hm9 : m ≤ 1000) (hp9 : p ≤ 100000) :
  Calls Tryz.prog 18 #[.slice A n c, .slice B m d, .slice C p q, .agg (wtL y).toArray] w fun e w' => ∃ A' c', e = .returned (.slice A' (freeL ws hs ps y).length c') ∧ LS rInt 1 8 w' A' (freeL ws hs ps y).length c' (freeL ws hs ps y) ∧ Below w.heap.size w w' ∧ ∀ a, A' = some a → w.heap.size ≤ a.block ∧ a.block < w'.heap.size := by
 have hn := h.len_le
 have hm := hh.len_le
 have hpl := hp.len_le
 have H := Lib.hid h
 have HH := Lib.hid hh
 have HP := Lib.hid hp
 have HW := Lib.hid hw
 have HM9 := Lib.hid hm9
 have HP9 := Lib.hid hp9
 have HLP := Lib.hid hp.1
 have HPL : Hid ((prefL hs).length = m) := Lib.hid (by rw [prefL_len]; exact hh.1)
 have HOKH : Hid (∀ x ∈ prefL hs, okHd x) := Lib.hid (fun x hx => LS.okHd hh x ((prefL_perm hs).mem_iff.1 hx))
 have HSZ : Hid (1 ≤ y.sz ∧ y.sz ≤ 65536) := Lib.hid (by
  have : 1 ≤ y.sz ∧ y.sz ≤ 65536 ∧ 1 ≤ y.da ∧ y.da ≤ 8 ∧ y.da ≤ y.to ∧ y.to ≤ 16 := by simpa [wtB] using hy
  omega)
 clear h hh hp hw hy hm9 hp9
 go_enter Tryz.func18, Tryz.ntmps18
 go_wp2_with (first
  | ((with_reducible show OpW 7); refine wpList_box _ rfl 42 (.tmp 3) rfl (wtL y) rfl ?_; intro w1 a1 a2 a3; have HV1 := Lib.hid a1; have HX1 := Lib.hid a2; clear a1 a2 a3)
  | ((with_reducible show OpW 14); refine wpList_bslice _ rfl 39 3 0 _ rfl #[] (by rw [List.map_toArray]; rfl) [] (bslI0 _) ?_; intro w2 a1 a2 a3; have HG2 := Lib.hid a1; have HX2 := Lib.hid (below_then HX1.out a2); have HV2 := Lib.hid (HV1.out.kept a2); have HO2 : Hid (OwnI w2 (w.heap.size + 1) (.slice (some ⟨w1.heap.size, 0, none⟩) 0 0) []) := Lib.hid (OwnI.nilB a1 HV1.out.lt); clear a1 a2 a3)
  | (go_at_call 49; refine (rpref_any B m d hs w2 (HH.out.kept stay_hd HX2.out) HM9.out).mono ?_; rintro e w3 ⟨A3, c3, rfl, r1, r2⟩; have HA3 := Lib.hid r1; have HX3 := Lib.hid (below_then HX2.out r2); have HV3 := Lib.hid (HV2.out.kept r2); have HO3 := Lib.hid (HO2.out.kept r2); have HG3 := Lib.hid (HG2.out.kept r2); clear r1 r2))
 have HE3 : Hid (0 < m → ∀ b, (Value.slice (some ⟨w1.heap.size, 0, none⟩) 0 0).ownBlock = some b → ∀ a, A3 = some a → b ≠ a.block) := Lib.hid (fun h0 b hb a ha => by
  have e : w1.heap.size = b := Option.some.inj hb
  rw [← e]
  exact (LS.apart HA3.out h0 (fun _ _ h => len_hd _ _ h) (by decide) a ha).2 HG3.out)
 have HL3 : Hid (0 < m → ∀ a, A3 = some a → a.block < w3.heap.size) := Lib.hid (fun h0 a ha => (LS.apart (g := 0) (te := 3) HA3.out h0 (fun _ _ h => len_hd _ _ h) (by decide) a ha).1)
 go_loopw [9, 11] (fun v iv wr => ∃ i : Nat, i ≤ m ∧ iv = .int .i64 (i : Int) ∧ Hid (OwnI wr (w.heap.size + 1) v ((((prefL hs).take i).filter (frB ws ps y)).map Hd.dv)) ∧ Hid (Below w.heap.size w wr) ∧ Hid (BL wr w.heap.size 42 (wtL y)) ∧ Hid (LS rHd 3 24 wr A3 m c3 (prefL hs)) ∧ Hid (0 < m → ∀ b, v.ownBlock = some b → ∀ a, A3 = some a → b ≠ a.block) ∧ Hid (0 < m → ∀ a, A3 = some a → a.block < wr.heap.size)) (fun _ iv _ => m - (intOf iv).toNat)
 case atStart => exact ⟨0, by omega, rfl, HO3, HX3, HV3, HA3, HE3, HL3⟩
 case round =>
  obtain ⟨i, hi, rfl, ho, hb, hv, ha, he, hal⟩ := hrel
  obtain ⟨wx, hwx⟩ : ∃ x, x = wr := ⟨_, rfl⟩
  rw [← hwx] at ho hb hv ha hal ⊢
  clear hwx
  by_cases hlt : i < m
  ·
   obtain ⟨x, g, o, cs, hs', ea, hat, hr⟩ := ha.out.at_ stay_hd (Below.refl _ wx) hlt
   obtain ⟨rfl, hok⟩ := hr
   have HN := Lib.hid (fr_next (F := frB ws ps y) hs')
   have HA := Lib.hid hat
   have HAd := Lib.hid (At.kept hat (Below.refl _ wx).drew)
   have HAL := Lib.hid ha.out
   obtain ⟨U, hU⟩ : ∃ U, U = usedI ws ps x.dv := ⟨_, rfl⟩
   have hur := used_rng HW.out ps x.dv p
   rw [take_end HLP.out, ← hU] at hur
   have hsz := HSZ.out
   have hwr : IntKind.i64.wrap (U + y.sz) = U + y.sz := IntWalk.i64_in _ (by have := HP9.out; omega)
   obtain ⟨b0, hb0⟩ : ∃ b, b = decide (U + y.sz ≤ x.qt) := ⟨_, rfl⟩
   have f0 : decide (U + y.sz ≤ x.qt) = b0 := hb0.symm
   have HFX : Hid (frB ws ps y x = (b0 && !hasAt ps y.st x.dv)) := Lib.hid (by unfold frB; rw [← hU, f0])
   have HU := Lib.hid hU
   have q0 : wx.drew.cell? ⟨g, o + i * 3, none⟩ = some (.int .i64 x.dv) := HAd.out 0 _ rfl
   have HBd := Lib.hid hb.out.drew
   have HVd := Lib.hid hv.out.drew
   have HODV : Hid (wfI x.dv) := Lib.hid hok.1
   subst ea
   clear hs' hat hok hU hur hsz hb0
   go_wp2_with fail
   refine Text.wp_region_text (fun w' => w'.cell? ⟨w.heap.size, 1, none⟩ = some (.int .i64 y.sz) ∧ w'.cell? ⟨g, o + i * 3 + 1, none⟩ = some (.int .i64 x.qt)) [(0, 4), (1, 4), (2, 4), (3, 4), (4, 4), (5, 4), (8, 4), (11, 4), (12, 4), (13, 4), (14, 4), (9, 0), (15, 0), (6, 1), (7, 2), (10, 4), (16, 4), (17, 4)] (by kernel_rfl) (by kernel_rfl) (fun _ _ _ _ _ h => h) (⟨HVd.out.get (j := 1) rfl, HAd.out 1 _ rfl⟩) ?_
   iterate 11 (refine Text.purek rfl rfl (fun K hK => ⟨_, fun w' => by go_simp <;> rfl, ?_⟩); go_simp; refine hK _ ?_; clear hK K)
   iterate 2 (refine Text.heldk rfl rfl (fun K hK => ⟨_, fun w' hw' => by go_simp <;> rfl, ?_⟩); go_simp; refine hK _ ?_; clear hK K)
   (refine Text.readk rfl rfl (fun K hK => ⟨_, by go_simp <;> rfl, ?_⟩); go_simp; refine hK _ ?_; clear hK K)
   refine Text.eff rfl rfl (fun K hK => ?_)
   go_simp
   refine (rused_any A n c ws C p q ps x.dv _ (H.out.kept stay_wt HBd.out) (HP.out.kept stay_pl HBd.out) HW.out HP9.out).mono ?_
   rintro e w5 ⟨rfl, rfl⟩
   rw [← HU.out]
   refine hK _ _ ⟨HVd.out.get (j := 1) rfl, HAd.out 1 _ rfl⟩ ?_
   clear hK K
   iterate 3 (refine Text.purek rfl rfl (fun K hK => ⟨_, fun w' => by go_simp <;> rfl, ?_⟩); go_simp; refine hK _ ?_; clear hK K)
   refine Text.done ?_
   go_wp2_with fail
   go_loopw [12, 13] (fun bv jv wr => ∃ (j : Nat) (b : Bool), j ≤ p ∧ jv = .int .i64 (j : Int) ∧ bv = .bool b ∧ Hid (b = (b0 && !hasAt (ps.take j) y.st x.dv)) ∧ Hid (Below wx.heap.size wx wr)) (fun _ jv _ => p - (intOf jv).toNat)
   case atStart => exact ⟨0, b0, by omega, rfl, rfl, Lib.hid (by simp [hasAt]), Lib.hid (Below.refl _ _).drew⟩
   case round =>
    obtain ⟨j, b, hj, rfl, rfl, hbb, hb1⟩ := hrel
    obtain ⟨wy, hwy⟩ : ∃ x, x = wr := ⟨_, rfl⟩
    rw [← hwy] at hb1 ⊢
    clear hwy
    have HB1 := Lib.hid (below_thenB hb.out hb.out.size hb1.out)
    have HV4 := Lib.hid (hv.out.kept hb1.out)
    have HA4 := Lib.hid (HAL.out.kept stay_hd hb1.out)
    have HO4 := Lib.hid (ho.out.kept hb1.out)
    have q1 : wy.cell? ⟨g, o + i * 3, none⟩ = some (.int .i64 x.dv) := (At.kept HA.out hb1.out) 0 _ rfl
    have hiI : (i : Int) < (m : Int) := by omega
    by_cases hlt2 : j < p
    ·
     obtain ⟨z, gz, oz, hz, ez, hatz, _⟩ := HP.out.pl_at HB1.out hlt2
     subst ez
     have HNX := Lib.hid (hasAt_next hz y.st x.dv)
     have q2 : wy.cell? ⟨gz, oz + j * 3, none⟩ = some (.string (strB z.st)) := hatz 0 _ rfl
     have q3 : wy.cell? ⟨gz, oz + j * 3 + 2, none⟩ = some (.int .i64 z.dv) := hatz 2 _ rfl
     have q4 : wy.cell? ⟨w.heap.size, 0, none⟩ = some (.string (strB y.st)) := HV4.out.get (j := 0) rfl
     clear hatz hz
     by_cases h1 : z.st = y.st
     ·
      have e1 : ((strB z.st).toList == (strB y.st).toList) = true := by rw [strB_eq, decide_eq_true h1]
      by_cases h2 : z.dv = x.dv
      ·
       have e2 : (z.dv == x.dv) = true := by rw [beq_iff_eq]; exact h2
       have HF : Hid (false = (b0 && !hasAt (ps.take (j + 1)) y.st x.dv)) := Lib.hid (by rw [HNX.out, decide_eq_true ⟨h1, h2⟩, Bool.or_true, Bool.not_true, Bool.and_false])
       clear h1 h2
       go_wp2_with fail
       refine Text.wp_region_text (fun _ => True) [(0, 4), (1, 4), (2, 4), (3, 4), (4, 4), (6, 4), (5, 1), (7, 1), (8, 4), (9, 4), (10, 4), (11, 4), (12, 4), (13, 4), (15, 4), (16, 4), (17, 4), (18, 4), (14, 1), (19, 1), (20, 4), (21, 4)] (by kernel_rfl) (by kernel_rfl) (fun _ _ _ _ _ h => h) (trivial) ?_
       iterate 6 (refine Text.purek rfl rfl (fun K hK => ⟨_, fun w' => by go_simp <;> rfl, ?_⟩); go_simp; refine hK _ ?_; clear hK K)
       iterate 2 (refine Text.readk rfl rfl (fun K hK => ⟨_, by go_simp <;> rfl, ?_⟩); go_simp; refine hK _ ?_; clear hK K)
       iterate 10 (refine Text.purek rfl rfl (fun K hK => ⟨_, fun w' => by go_simp <;> rfl, ?_⟩); go_simp; refine hK _ ?_; clear hK K)
       iterate 2 (refine Text.readk rfl rfl (fun K hK => ⟨_, by go_simp <;> rfl, ?_⟩); go_simp; refine hK _ ?_; clear hK K)
       iterate 2 (refine Text.purek rfl rfl (fun K hK => ⟨_, fun w' => by go_simp <;> rfl, ?_⟩); go_simp; refine hK _ ?_; clear hK K)
       refine Text.done ?_
       go_wp2_with fail
       go_roundw
       case rel => exact ⟨j + 1, false, by omega, by go_num, rfl, HF, Lib.hid hb1.out.drew⟩
       case measure => simp [intOf]; omega
      ·
       have e2 : (z.dv == x.dv) = false := by rw [beq_eq_false_iff_ne]; exact h2
       have HF : Hid (b = (b0 && !hasAt (ps.take (j + 1)) y.st x.dv)) := Lib.hid (by rw [HNX.out, decide_eq_false (fun h => h2 h.2), Bool.or_false]; exact hbb.out)
       clear h1 h2
       go_wp2_with fail
       refine Text.wp_region_text (fun _ => True) [(0, 4), (1, 4), (2, 4), (3, 4), (4, 4), (6, 4), (5, 1), (7, 1), (8, 4), (9, 4), (10, 4), (11, 4), (12, 4), (13, 4), (15, 4), (16, 4), (17, 4), (18, 4), (14, 1), (19, 1), (20, 4), (21, 4)] (by kernel_rfl) (by kernel_rfl) (fun _ _ _ _ _ h => h) (trivial) ?_
       iterate 6 (refine Text.purek rfl rfl (fun K hK => ⟨_, fun w' => by go_simp <;> rfl, ?_⟩); go_simp; refine hK _ ?_; clear hK K)
       iterate 2 (refine Text.readk rfl rfl (fun K hK => ⟨_, by go_simp <;> rfl, ?_⟩); go_simp; refine hK _ ?_; clear hK K)
       iterate 10 (refine Text.purek rfl rfl (fun K hK => ⟨_, fun w' => by go_simp <;> rfl, ?_⟩); go_simp; refine hK _ ?_; clear hK K)
       iterate 2 (refine Text.readk rfl rfl (fun K hK => ⟨_, by go_simp <;> rfl, ?_⟩); go_simp; refine hK _ ?_; clear hK K)
       iterate 2 (refine Text.purek rfl rfl (fun K hK => ⟨_, fun w' => by go_simp <;> rfl, ?_⟩); go_simp; refine hK _ ?_; clear hK K)
       refine Text.done ?_
       go_wp2_with fail
       go_roundw
       case rel => exact ⟨j + 1, b, by omega, by go_num, rfl, HF, Lib.hid hb1.out.drew⟩
       case measure => simp [intOf]; omega
     ·
      have e1 : ((strB z.st).toList == (strB y.st).toList) = false := by rw [strB_eq, decide_eq_false h1]
      have HF : Hid (b = (b0 && !hasAt (ps.take (j + 1)) y.st x.dv)) := Lib.hid (by rw [HNX.out, decide_eq_false (fun h => h1 h.1), Bool.or_false]; exact hbb.out)
      clear h1
      go_wp2_with fail
      refine Text.wp_region_text (fun _ => True) [(0, 4), (1, 4), (2, 4), (3, 4), (4, 4), (6, 4), (5, 1), (7, 1), (8, 4), (9, 4), (10, 4), (11, 4), (12, 4), (13, 4), (14, 4), (15, 4), (16, 4), (17, 4), (18, 4), (19, 4), (20, 4), (21, 4)] (by kernel_rfl) (by kernel_rfl) (fun _ _ _ _ _ h => h) (trivial) ?_
      iterate 6 (refine Text.purek rfl rfl (fun K hK => ⟨_, fun w' => by go_simp <;> rfl, ?_⟩); go_simp; refine hK _ ?_; clear hK K)
      iterate 2 (refine Text.readk rfl rfl (fun K hK => ⟨_, by go_simp <;> rfl, ?_⟩); go_simp; refine hK _ ?_; clear hK K)
      iterate 2 (refine Text.purek rfl rfl (fun K hK => ⟨_, fun w' => by go_simp <;> rfl, ?_⟩); go_simp; refine hK _ ?_; clear hK K)
      iterate 11 (refine Text.skipk (.inr (.inr rfl)) rfl rfl (fun K hK => ?_); go_simp; refine hK _ ?_; clear hK K)
      (refine Text.purek rfl rfl (fun K hK => ⟨_, fun w' => by go_simp <;> rfl, ?_⟩); go_simp; refine hK _ ?_; clear hK K)
      refine Text.done ?_
      go_wp2_with fail
      go_roundw
      case rel => exact ⟨j + 1, b, by omega, by go_num, rfl, HF, Lib.hid hb1.out.drew⟩
      case measure => simp [intOf]; omega
    ·
     obtain rfl : j = p := by omega
     rw [take_end HLP.out, ← HFX.out] at hbb
     cases b with
     | false =>
      have HF : Hid ((((prefL hs).take (i + 1)).filter (frB ws ps y)).map Hd.dv = (((prefL hs).take i).filter (frB ws ps y)).map Hd.dv) := Lib.hid (by rw [HN.out, ← hbb.out]; simp)
      have HE4 := Lib.hid he.out
      have HAL4 : Hid (0 < m → ∀ a, (some ⟨g, o, none⟩ : Option Addr) = some a → a.block < wy.heap.size) := Lib.hid (fun h0 a ha => by have h8 := hal.out h0 a ha; have h9 := hb1.out.size; omega)
      go_wp2_with fail
      go_roundw
      case rel => exact ⟨i + 1, by omega, by go_num, by rw [HF.out]; exact HO4, HB1, HV4, HA4, HE4, HAL4⟩
      case measure => simp [intOf]; omega
     | true =>
      have HF : Hid ((((prefL hs).take (i + 1)).filter (frB ws ps y)).map Hd.dv = (((prefL hs).take i).filter (frB ws ps y)).map Hd.dv ++ [x.dv]) := Lib.hid (by rw [HN.out, ← hbb.out]; simp)
      have HLN : Hid (((((prefL hs).take i).filter (frB ws ps y)).map Hd.dv).length ≤ 1000) := Lib.hid (by
       rw [List.length_map]
       refine Nat.le_trans (List.length_filter_le _ _) ?_
       rw [List.length_take]; have := HM9.out; omega)
      obtain ⟨L, hL⟩ : ∃ L, L = (((prefL hs).take i).filter (frB ws ps y)).map Hd.dv := ⟨_, rfl⟩
      rw [← hL] at HF HLN HO4
      clear hL
      go_wp2_with (first
       | ((with_reducible show OpW 75); refine wpList_bslice _ rfl 39 3 1 _ rfl #[(0, .int .i64 x.dv)] (by rw [List.map_toArray]; rfl) [.int .i64 x.dv] (bslI _ _) ?_; intro w6 a1 a2 a3; have HG6 := Lib.hid a1; have HX6 : Hid (Below wy.heap.size wy w6) := Lib.hid a2; clear a1 a2 a3)
       | ((with_reducible show OpW 76); refine wpList_pushI rfl (.tmp 69) (.tmp 75) rfl (w.heap.size + 1) _ _ rfl (HO4.out.kept HX6.out) (by have := HV4.out.lt; have := HX6.out.size; omega) wy.heap.size x.dv rfl HG6.out (by have := HLN.out; omega) ?_; intro v' w7 a1 a2; have HO7 := Lib.hid a1; have HB7 : Hid (Below w.heap.size w w7) := Lib.hid (low_kp (below_thenB HB1.out HB1.out.size HX6.out) a2.kp (fun i hi e => by have := HO4.out.2 i e; omega)); have HV7 : Hid (BL w7 w.heap.size 42 (wtL y)) := Lib.hid (a2.kp.bl (HV4.out.kept HX6.out) (fun e => by have := HO4.out.2 _ e; omega)); have HA7 : Hid (LS rHd 3 24 w7 (some ⟨g, o, none⟩) m c3 (prefL hs)) := Lib.hid (LS.kpn (w' := w7) (S := fun b => _) (HA4.out.kept stay_hd HX6.out) (fun _ _ h => h) a2.kp (fun a ha e => he.out (by omega) _ e a ha rfl)); have HE7 : Hid (0 < m → ∀ b, v'.ownBlock = some b → ∀ a, (some ⟨g, o, none⟩ : Option Addr) = some a → b ≠ a.block) := Lib.hid (fun h0 b hb a ha => (a2.own b hb).elim (fun e => he.out h0 b e a ha) (fun e => by have h8 := hal.out h0 a ha; have h9 := hb1.out.size; have h7 := HX6.out.size; omega)); have HAL7 : Hid (0 < m → ∀ a, (some ⟨g, o, none⟩ : Option Addr) = some a → a.block < w7.heap.size) := Lib.hid (fun h0 a ha => by have h8 := hal.out h0 a ha; have h9 := hb1.out.size; have h7 := HX6.out.size; have h6 := a2.kp.size; omega); clear a1 a2))
      go_roundw
      case rel => exact ⟨i + 1, by omega, by go_num, by rw [HF.out]; exact HO7, HB7, HV7, HA7, HE7, HAL7⟩
      case measure => simp [intOf]; omega
  ·
   obtain rfl : i = m := by omega
   have e1 : (((prefL hs).take i).filter (frB ws ps y)).map Hd.dv = freeL ws hs ps y := by rw [take_end HPL.out]; rfl
   rw [e1] at ho
   obtain ⟨A', c', rfl, hls, hfr⟩ := ho.out.ls (fun x hx => by
    unfold freeL at hx
    obtain ⟨h0, h1, rfl⟩ := List.mem_map.1 hx
    exact (HOKH.out h0 (List.mem_filter.1 h1).1).1) (by
    have h9 : (freeL ws hs ps y).length ≤ i := by
     rw [← e1, List.length_map]
     refine Nat.le_trans (List.length_filter_le _ _) ?_
     rw [List.length_take]; omega
    have := HM9.out
    unfold lim; omega)
   have HLS := Lib.hid hls
   have HFR := Lib.hid hfr
   obtain ⟨N, hN⟩ : ∃ N, N = (freeL ws hs ps y).length := ⟨_, rfl⟩
   rw [← hN] at HLS ⊢
   have HNN := Lib.hid hN
   clear hls hN hfr
   go_wp2_with fail
   go_ret
   exact ⟨A', c', by rw [← HNN.out]; rfl, by rw [← HNN.out]; exact HLS.out, hb.out, fun a ha => ⟨by have := (HFR.out a ha).1; omega, (HFR.out a ha).2⟩⟩
end Go.Proofs.YtklfficlegfhjaaGreat
