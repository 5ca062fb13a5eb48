/- Contract of ref44.Tokens. -/
import Derived.Test.YtgjgofjabdjclaaDoorRncm
import Derived.Test.YtgjgofjabdjclaaDoorA18
namespace Go.Proofs.YtgjgofjabdjclaaDoor
open Go Go.RowKit Gf Sha

section
variable {P : Program} (w : World) {o : Oper} {a : Act} {Q : Exit → Act → World → Prop} {K : Act → World → Prop}
theorem wp_appRW (sl x : Operand) (t te : TypeId) (s : Nat) (i : TypeInfo) (z : Value) (hop : o.op = .call { callee := .builtin .append, args := #[sl, x], argTypes := #[t, t] })
    (ht : P.underlying t = some (.slice te)) (hi : P.info? te = some i) (hz : i.zero = some z) (hs : i.size = s) (hzs : z.cells.size = s) (v : Value) (n : Nat) (l : List Value) (hv : a.eval sl = v) (h : RW w te s v n l)
    (g : Nat) (xs : List Value) (hx : a.eval x = .slice (some ⟨g, 0, none⟩) 1 1) (hbl : BL w g te xs) (hxl : xs.length = s) (h1 : ∀ u ∈ xs, u.oneCell' = true) (hb : (n + 1) * i.bytes ≤ 140737488355328) (hn : n + 1 ≤ 140737488355328)
    (hK : ∀ v' w', AppR w te s v n 1 l xs v' w' → K (a.put o.dst v') w') : o.wp P a w K Q := by
  have hrow : RW w te s (.slice (some ⟨g, 0, none⟩) 1 1) 1 xs := RW.of_blk hbl (by omega) (by decide)
  have hsrc : Src P s t (.slice (some ⟨g, 0, none⟩) 1 1) 1 xs w := ⟨.inl ⟨_, ht⟩, fun _ => rfl, hrow.firstCells, RW.firstCells hrow.drew, by omega, h1⟩
  obtain ⟨v', w', hr, h2⟩ := run_appRW (rt := o.type) ht hi hz hs hzs h hsrc (by decide) hb hn
  unfold Oper.wp execOp
  simp only [hop, resolve, invoke, builtin, Sem.run_bind, Sem.run_pure, Result.andThen_ok, List.map_toArray, List.map_cons, List.map_nil, hv, hx, hr]
  exact hK _ _ h2
end
theorem bslTok (s n t : List UInt8) (i : Int) (w : World) : (Instr.buildSlice 24 1 #[(0, .agg #[.string (strB s), .int .i64 i, .string (strB n), .string (strB t)])]).run Tryd.prog w = .ok (.slice (some ⟨w.heap.size, 0, none⟩) 1 1) (w.alloc (.cells [.string (strB s), .int .i64 i, .string (strB n), .string (strB t)].toArray 37)) := by kernel_rfl
theorem infoTk4 : (Tryd.prog.info? 37).map (fun i => (i.zero, i.size, i.bytes)) = some (some (.agg Tk.zero.cells.toArray), 4, 56) := infoTok
theorem tokL_take (K : Ky) (s d : List UInt8) (i f k : Nat) : (tokL K s i d f (k + 1)).flatMap Tk.cells = (tokL K s i d f k).flatMap Tk.cells ++ (tokN K s i d (f + k)).cells := by
  simp [tokL, List.range_succ]
/-- What the reference's Tokens leaves. -/
def RTokRet (l : List Tk) (w : World) (e : Ending) (w' : World) : Prop :=
  ∃ v n, e = .returned (.tuple #[v, .int .i64 0]) ∧ l.length = n ∧ RW w' 37 4 v n (l.flatMap Tk.cells) ∧ Below w.heap.size w w'

set_option maxRecDepth 100000 in
set_option maxHeartbeats 4000000 in
theorem rtokens_yes (Kx : Ky) (s d : List UInt8) (i n cp f c : Nat) (A : Option Addr) (w : World) (hd : BS w A n cp d) (hK : okK Kx = true) (hI : idB s i = true) (hD : dataB n = true) (hR : rangeB f c = true) :
    Calls Tryd.prog 32 #[Kx.val, .agg #[.string (strB s), .int .i64 (i : Int)], .slice A n cp, .int .i64 (f : Int), .int .i64 (c : Int)] w (RTokRet (tokL Kx s i d f c) w) := by
  have HD := Lib.hid hd
  have HK := Lib.hid hK
  have HI := Lib.hid hI
  have HDB := Lib.hid hD
  have HN1 : Hid (n ≤ 1000000) := Lib.hid (by simp only [dataB, Bool.and_eq_true, decide_eq_true_eq] at hD; omega)
  have HR := Lib.hid hR
  have hI2 : s.length = 32 ∧ i < 16 := by
    simp only [idB, Bool.and_eq_true, decide_eq_true_eq] at hI
    exact ⟨hI.1, by omega⟩
  have hR2 : (f : Int) ≤ 1099511627776 ∧ (c : Int) ≤ 256 ∧ (f : Int) + c ≤ 1099511627776 := by
    simp only [rangeB, Bool.and_eq_true, decide_eq_true_eq] at hR
    exact ⟨hR.2.1, hR.2.2.2.1, hR.2.2.2.2⟩
  have HS32 := Lib.hid hI2.1
  have HI16 := Lib.hid hI2.2
  obtain ⟨hf1, hc1, hfc⟩ := hR2
  clear hd hK hI hD hR hI2
  go_enter Tryd.func32, Tryd.ntmps32
  go_wp2_with (first
    | ((with_reducible show wpList _ _ _ (⟨some 5, _, _, _, _, _⟩ :: _) _ _); refine wpList_box _ rfl 29 (.tmp 0) rfl Kx.cells rfl ?_; intro w1 a1 a2 a3; have HG1 := Lib.hid a1; have HB1 := Lib.hid a2; have HZ1 := Lib.hid a3; clear a1 a2 a3)
    | ((with_reducible show wpList _ _ _ (⟨some 6, _, _, _, _, _⟩ :: _) _ _); refine wpList_box _ rfl 33 (.tmp 1) rfl [.string (strB s), .int .i64 (i : Int)] rfl ?_; intro w2 a1 a2 a3; have HP2 := Lib.hid a1; have HB2 := Lib.hid (below_then HB1.out (a2.mono (Nat.le_refl _))); have HG2 := Lib.hid (HG1.out.kept a2); clear a1 a2 a3)
    | ((with_reducible show wpList _ _ _ (⟨some 15, _, _, _, _, _⟩ :: _) _ _); refine wpList_loadv _ rfl 29 (.tmp 5) rfl 5 (by kernel_rfl) w.heap.size 0 Kx.cells rfl (BL.all HG2.out) rfl ?_)
    | (go_at_call 56; refine (rkeys_any Kx w2).mono ?_; rintro e w3 ⟨rfl, b1⟩; rw [HK.out]; have HB3 := Lib.hid (below_thenB HB2.out HB2.out.size b1); have HG3 := Lib.hid (HG2.out.kept b1); have HP3 := Lib.hid (HP2.out.kept b1); have q0 := HP3.out.get (j := 0) rfl; have q1 := HP3.out.get (j := 1) rfl; clear b1)
    | (go_at_call 57; refine (rpiece_any s (i : Int) w3).mono ?_; rintro e w4 ⟨rfl, b1⟩; rw [HI.out]; have HB4 := Lib.hid (below_thenB HB3.out HB3.out.size b1); have HG4 := Lib.hid (HG3.out.kept b1); have HP4 := Lib.hid (HP3.out.kept b1); clear b1 q0 q1)
    | (go_at_call 59; refine (rdata_any A n cp w4).mono ?_; rintro e w' ⟨rfl, rfl⟩; rw [HDB.out])
    | (go_at_call 60; refine (rnums_any (f : Int) (c : Int) w4).mono ?_; rintro e w' ⟨rfl, rfl⟩; rw [HR.out]))
  have HT0 : Hid (RW (w4.alloc (.cells #[] 37)) 37 4 (.slice (some ⟨w4.heap.size, 0, none⟩) 0 0) 0 ((tokL Kx s i d f 0).flatMap Tk.cells)) := Lib.hid (RW.of_blk (l := []) (BL.new w4 37 []) rfl (by decide))
  have HX0 : Hid (Below w4.heap.size w4 (w4.alloc (.cells #[] 37))) := Lib.hid ((Below.refl _ _).alloc (Nat.le_refl _) _)
  have hcl : 0 ≤ (c : Int) := by omega
  go_loopw [12, 13] (fun vv iv wr => ∃ (k q : Nat) (v : Value), k ≤ c ∧ q ≤ 1099511627776 ∧ iv = .int .i64 (q : Int) ∧ v = vv ∧ Hid (q = f + k) ∧ Hid (RW wr 37 4 v k ((tokL Kx s i d f k).flatMap Tk.cells)) ∧ Hid (∀ b, v.ownBlock = some b → w4.heap.size ≤ b) ∧ Hid (Below w4.heap.size w4 wr)) (fun _ iv _ => f + c - (intOf iv).toNat)
  case atStart => exact ⟨0, f, _, by omega, by omega, rfl, rfl, Lib.hid rfl, HT0, Lib.hid (fun b hb => by cases hb; exact Nat.le_refl _), HX0⟩
  case round =>
    obtain ⟨k, q, v, hk, hq1, rfl, rfl, hq, hrw, hown, hx⟩ := hrel
    obtain ⟨wx, hwx⟩ : ∃ x, x = wr := ⟨_, rfl⟩
    rw [← hwx] at hrw hx ⊢
    clear hwx
    by_cases hlt : k < c
    · have HGx := Lib.hid (HG4.out.kept hx.out)
      have HPx := Lib.hid (HP4.out.kept hx.out)
      have HDx := Lib.hid ((HD.out.kept HB4.out).kept hx.out)
      have hqlt : (q : Int) < (f : Int) + (c : Int) := by have := hq.out; omega
      go_wp2_with (first
        | ((with_reducible show wpList _ _ _ (⟨some 43, _, _, _, _, _⟩ :: _) _ _); refine wpList_loadv _ rfl 29 (.tmp 5) rfl 5 (by kernel_rfl) w.heap.size 0 Kx.cells rfl (BL.all HGx.out) rfl ?_)
        | ((with_reducible show wpList _ _ _ (⟨some 44, _, _, _, _, _⟩ :: _) _ _); refine wpList_loadv _ rfl 33 (.tmp 6) rfl 2 (by kernel_rfl) w1.heap.size 0 [.string (strB s), .int .i64 (i : Int)] rfl (BL.all HPx.out) rfl ?_)
        | (go_at_call 58; refine (rnonce_any Kx s i q wx HK.out HS32.out HI16.out hq1).mono ?_; rintro e w6 ⟨rfl, b1⟩; have HX6 := Lib.hid b1; have HW6 := Lib.hid (below_thenB hx.out hx.out.size b1); have HP6 := Lib.hid (HPx.out.kept b1); have HD6 := Lib.hid (HDx.out.kept b1); have HR6 := Lib.hid (hrw.out.kept b1); clear b1))
      have HTK : Hid ((tokL Kx s i d f (k + 1)).flatMap Tk.cells = (tokL Kx s i d f k).flatMap Tk.cells ++ [.string (strB s), .int .i64 (i : Int), .string (strB (nonceL Kx s i q)), .string (strB (tagL (nonceL Kx s i q) d))]) := Lib.hid (by rw [tokL_take, hq.out]; rfl)
      have HNl : Hid ((nonceL Kx s i q).length ≤ 64) := Lib.hid (by rw [nonceL_length]; decide)
      obtain ⟨N, hN⟩ : ∃ N, N = nonceL Kx s i q := ⟨_, rfl⟩
      rw [← hN] at HTK HNl ⊢
      clear hN
      obtain ⟨T, hT⟩ : ∃ T, T = tagL N d := ⟨_, rfl⟩
      rw [← hT] at HTK
      have HTT := Lib.hid hT
      clear hT
      refine Text.wp_region_text (fun w' => Below w6.heap.size w6 w') [(0, 4), (2, 4), (3, 4), (4, 4), (1, 0), (5, 2), (6, 4), (7, 2), (8, 3), (9, 4)] (by kernel_rfl) (by kernel_rfl) (fun _ _ _ _ _ h => h) ((Below.refl _ _).drew) ?_
      iterate 4 (refine Text.purek rfl rfl (fun K hK => ⟨_, fun w' => by go_simp <;> rfl, ?_⟩); go_simp; refine hK _ ?_; clear hK K)
      refine Text.heldk rfl rfl (fun K hK => ?_)
      refine ⟨_, fun w' hw' => exec_loadv 33 (.tmp 6) rfl 2 (by kernel_rfl) w1.heap.size 0 [.string (strB s), .int .i64 (i : Int)] rfl (BL.all (HP6.out.kept hw')) rfl, ?_⟩
      go_simp
      refine hK _ ?_
      clear hK K
      refine Text.eff rfl rfl (fun K hK => ?_)
      go_simp
      refine (rtag_any A n cp N d w6.drew HD6.out.drew HNl.out HN1.out).mono ?_
      rintro e w7 ⟨rfl, b1⟩
      rw [← HTT.out]
      have HX7 : Hid (Below w6.heap.size w6 w7) := Lib.hid ((Below.refl _ _).drew.trans (b1.mono (Nat.le_refl _)))
      refine hK _ _ HX7.out ?_
      clear hK K b1
      (refine Text.purek rfl rfl (fun K hK => ⟨_, fun w' => by go_simp <;> rfl, ?_⟩); go_simp; refine hK _ ?_; clear hK K)
      refine Text.eff rfl rfl (fun K hK => ?_)
      refine wp_bslice 24 37 1 _ rfl #[(0, .agg #[.string (strB s), .int .i64 (i : Int), .string (strB N), .string (strB T)])] (by rw [List.map_toArray]; rfl) [.string (strB s), .int .i64 (i : Int), .string (strB N), .string (strB T)] (bslTok s N T (i : Int) _) ?_
      intro w8 a1 a2 a3
      have HG8 := Lib.hid a1
      have HX8 : Hid (Below w6.heap.size w6 w8) := Lib.hid (below_then HX7.out a2)
      have HR8 := Lib.hid (HR6.out.kept HX8.out)
      refine hK _ _ HX8.out ?_
      clear hK K a1 a2 a3
      refine Text.last rfl rfl (fun K hK => ?_)
      obtain ⟨iS, i1, i2, i3, i4⟩ := info_some infoTk4
      refine wp_appRW _ (.tmp 47) (.tmp 54) 24 37 4 iS _ rfl Tryd.underlying24 i1 i2 i3 rfl v k _ rfl HR8.out w7.heap.size _ rfl HG8.out rfl (by intro u hu; simp only [List.mem_cons, List.not_mem_nil, or_false] at hu; rcases hu with rfl | rfl | rfl | rfl <;> rfl) (by rw [i4]; omega) (by omega) ?_
      intro v9 w9 ap
      have HR9 : Hid (RW w9 37 4 v9 (k + 1) ((tokL Kx s i d f (k + 1)).flatMap Tk.cells)) := Lib.hid (by rw [HTK.out]; exact ap.row)
      have HO9 : Hid (∀ b, v9.ownBlock = some b → w4.heap.size ≤ b) := Lib.hid (fun b hb => (ap.own b hb).elim (hown.out b) (fun h => Nat.le_trans (by have := HW6.out.size; have := HX8.out.size; omega) h))
      have HX9 : Hid (Below w4.heap.size w4 w9) := Lib.hid (((Kp.of_below (S := fun _ => False) (below_thenB HW6.out HW6.out.size HX8.out)).after ap.kp (fun j hj hS => by have := hown.out j hS; omega)).below (Nat.le_refl _) (fun _ h => h.elim))
      refine hK _ _ ?_
      clear hK K ap i1 i2 i3 i4
      (refine Text.purek rfl rfl (fun K hK => ⟨_, fun w' => by go_simp <;> rfl, ?_⟩); go_simp; refine hK _ ?_; clear hK K)
      refine Text.done ?_
      go_wp2_with fail
      go_roundw
      case rel => exact ⟨k + 1, q + 1, v9, by omega, by omega, by go_num, rfl, Lib.hid (by rw [hq.out]; omega), HR9, HO9, HX9⟩
      case measure => simp [intOf]; have := hq.out; omega
    · obtain rfl : k = c := by omega
      have hqlt : ¬ (q : Int) < (f : Int) + (k : Int) := by have := hq.out; omega
      go_wp2_with fail
      go_ret2
      exact ⟨v, k, rfl, (by simp [tokL]), hrw.out, below_thenB HB4.out HB4.out.size hx.out⟩
end Go.Proofs.YtgjgofjabdjclaaDoor
