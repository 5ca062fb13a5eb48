/- Several texts in one: Rtk, Mt3, Mt4, Rhs, Rso, Rsn, Mt5, LawKit, LawOpen, LawOpen2, Tabs, LawOpen44. -/
import Derived.Test.YtfcakjpljjnjnaaGreatDoorC18
import Derived.Test.YtfcakjpljjnjnaaGreatDoorC21
import Derived.Test.YtfcakjpljjnjnaaGreatDoorC16
import Derived.LoopTactic
import Derived.Test.YtfcakjpljjnjnaaGreatDoorRows
import Derived.WalkKit
import Derived.ProofKit
import Derived.OpenShut
import Derived.Below
import Derived.Carry
import Derived.SizedLaws
import Derived.ChangeSame
import Derived.WideKeyArgs
import Derived.Test.YtfcakjpljjnjnaaGreatDoorC1
import Derived.Deep.Matrix
import Derived.ChangeSlices
import Derived.Test.YtfcakjpljjnjnaaGreatDoorC5
import Derived.LaidMore
import Derived.Stop.Joined
import Derived.LaidLaws
import Derived.MakeChecks
/- Contract of ref44.Tokens. -/
namespace Go.Proofs.YtfcakjpljjnjnaaGreatDoor
open Go Go.RowKit Gf Sha

section
variable {P : Program} (w : World) {o : Oper} {a : Act} {Q : Exit → Act → World → Prop} {K : Act → World → Prop}
theorem wp_appRW (sl x : Operand) (t te : TypeId) (s : Nat) (i : TypeInfo) (z : Value) (hop : o.op = .call { callee := .builtin .append, args := #[sl, x], argTypes := #[t, t] })
  (ht : P.underlying t = some (.slice te)) (hi : P.info? te = some i) (hz : i.zero = some z) (hs : i.size = s) (hzs : z.cells.size = s) (v : Value) (n : Nat) (l : List Value) (hv : a.eval sl = v) (h : RW w te s v n l)
  (g : Nat) (xs : List Value) (hx : a.eval x = .slice (some ⟨g, 0, none⟩) 1 1) (hbl : BL w g te xs) (hxl : xs.length = s) (h1 : ∀ u ∈ xs, u.oneCell' = true) (hb : (n + 1) * i.bytes ≤ 140737488355328) (hn : n + 1 ≤ 140737488355328)
  (hK : ∀ v' w', AppR w te s v n 1 l xs v' w' → K (a.put o.dst v') w') : o.wp P a w K Q := by
 have hrow : RW w te s (.slice (some ⟨g, 0, none⟩) 1 1) 1 xs := RW.of_blk hbl (by omega) (by decide)
 have hsrc : Src P s t (.slice (some ⟨g, 0, none⟩) 1 1) 1 xs w := ⟨.inl ⟨_, ht⟩, fun _ => rfl, hrow.firstCells, RW.firstCells hrow.drew, by omega, h1⟩
 obtain ⟨v', w', hr, h2⟩ := run_appRW (rt := o.type) ht hi hz hs hzs h hsrc (by decide) hb hn
 unfold Oper.wp execOp
 simp only [hop, resolve, invoke, builtin, Sem.run_bind, Sem.run_pure, Result.andThen_ok, List.map_toArray, List.map_cons, List.map_nil, hv, hx, hr]
 exact hK _ _ h2
end
theorem bslTok (s n t : List UInt8) (i : Int) (w : World) : (Instr.buildSlice 33 1 #[(0, .agg #[.string (strB s), .int .i64 i, .string (strB n), .string (strB t)])]).run Tryz.prog w = .ok (.slice (some ⟨w.heap.size, 0, none⟩) 1 1) (w.alloc (.cells [.string (strB s), .int .i64 i, .string (strB n), .string (strB t)].toArray 60)) := by kernel_rfl
theorem infoTk4 : (Tryz.prog.info? 60).map (fun i => (i.zero, i.size, i.bytes)) = some (some (.agg Tk.zero.cells.toArray), 4, 56) := infoTok
theorem tokL_take (K : Ky) (s d : List UInt8) (i f k : Nat) : (tokL K s i d f (k + 1)).flatMap Tk.cells = (tokL K s i d f k).flatMap Tk.cells ++ (tokN K s i d (f + k)).cells := by
 simp [tokL, List.range_succ]
/-- What the reference's Tokens leaves. -/
def RTokRet (l : List Tk) (w : World) (e : Ending) (w' : World) : Prop :=
 ∃ v n, e = .returned (.tuple #[v, .int .i64 0]) ∧ l.length = n ∧ RW w' 60 4 v n (l.flatMap Tk.cells) ∧ Below w.heap.size w w'

set_option maxRecDepth 100000 in
set_option maxHeartbeats 4000000 in
theorem rtokens_yes (Kx : Ky) (s d : List UInt8) (i n cp f c : Nat) (A : Option Addr) (w : World) (hd : BS w A n cp d) (hK : okK Kx = true) (hI : idB s i = true) (hD : dataB n = true) (hR : rangeB f c = true) :
  Calls Tryz.prog 29 #[Kx.val, .agg #[.string (strB s), .int .i64 (i : Int)], .slice A n cp, .int .i64 (f : Int), .int .i64 (c : Int)] w (RTokRet (tokL Kx s i d f c) w) := by
 have HD := Lib.hid hd
 have HK := Lib.hid hK
 have HI := Lib.hid hI
 have HDB := Lib.hid hD
 have HN1 : Hid (n ≤ 1000000) := Lib.hid (by simp only [dataB, Bool.and_eq_true, decide_eq_true_eq] at hD; omega)
 have HR := Lib.hid hR
 have hI2 : s.length = 32 ∧ i < 16 := by
  simp only [idB, Bool.and_eq_true, decide_eq_true_eq] at hI
  exact ⟨hI.1, by omega⟩
 have hR2 : (f : Int) ≤ 1099511627776 ∧ (c : Int) ≤ 256 ∧ (f : Int) + c ≤ 1099511627776 := by
  simp only [rangeB, Bool.and_eq_true, decide_eq_true_eq] at hR
  exact ⟨hR.2.1, hR.2.2.2.1, hR.2.2.2.2⟩
 have HS32 := Lib.hid hI2.1
 have HI16 := Lib.hid hI2.2
 obtain ⟨hf1, hc1, hfc⟩ := hR2
 clear hd hK hI hD hR hI2
 go_enter Tryz.func29, Tryz.ntmps29
 go_wp2_with (first
  | ((with_reducible show OpW 5); refine wpList_box _ rfl 23 (.tmp 0) rfl Kx.cells rfl ?_; intro w1 a1 a2 a3; have HG1 := Lib.hid a1; have HB1 := Lib.hid a2; have HZ1 := Lib.hid a3; clear a1 a2 a3)
  | ((with_reducible show OpW 6); refine wpList_box _ rfl 31 (.tmp 1) rfl [.string (strB s), .int .i64 (i : Int)] rfl ?_; intro w2 a1 a2 a3; have HP2 := Lib.hid a1; have HB2 := Lib.hid (below_then HB1.out (a2.mono (Nat.le_refl _))); have HG2 := Lib.hid (HG1.out.kept a2); clear a1 a2 a3)
  | ((with_reducible show OpW 15); refine wpList_loadv _ rfl 23 (.tmp 5) rfl 5 (by kernel_rfl) w.heap.size 0 Kx.cells rfl (BL.all HG2.out) rfl ?_)
  | (go_at_call 25; refine (rkeys_any Kx w2).mono ?_; rintro e w3 ⟨rfl, b1⟩; rw [HK.out]; have HB3 := Lib.hid (below_thenB HB2.out HB2.out.size b1); have HG3 := Lib.hid (HG2.out.kept b1); have HP3 := Lib.hid (HP2.out.kept b1); have q0 := HP3.out.get (j := 0) rfl; have q1 := HP3.out.get (j := 1) rfl; clear b1)
  | (go_at_call 53; refine (rpiece_any s (i : Int) w3).mono ?_; rintro e w4 ⟨rfl, b1⟩; rw [HI.out]; have HB4 := Lib.hid (below_thenB HB3.out HB3.out.size b1); have HG4 := Lib.hid (HG3.out.kept b1); have HP4 := Lib.hid (HP3.out.kept b1); clear b1 q0 q1)
  | (go_at_call 54; refine (rdata_any A n cp w4).mono ?_; rintro e w' ⟨rfl, rfl⟩; rw [HDB.out])
  | (go_at_call 26; refine (rnums_any (f : Int) (c : Int) w4).mono ?_; rintro e w' ⟨rfl, rfl⟩; rw [HR.out]))
 have HT0 : Hid (RW (w4.alloc (.cells #[] 60)) 60 4 (.slice (some ⟨w4.heap.size, 0, none⟩) 0 0) 0 ((tokL Kx s i d f 0).flatMap Tk.cells)) := Lib.hid (RW.of_blk (l := []) (BL.new w4 60 []) rfl (by decide))
 have HX0 : Hid (Below w4.heap.size w4 (w4.alloc (.cells #[] 60))) := Lib.hid ((Below.refl _ _).alloc (Nat.le_refl _) _)
 have hcl : 0 ≤ (c : Int) := by omega
 go_loopw [12, 13] (fun vv iv wr => ∃ (k q : Nat) (v : Value), k ≤ c ∧ q ≤ 1099511627776 ∧ iv = .int .i64 (q : Int) ∧ v = vv ∧ Hid (q = f + k) ∧ Hid (RW wr 60 4 v k ((tokL Kx s i d f k).flatMap Tk.cells)) ∧ Hid (∀ b, v.ownBlock = some b → w4.heap.size ≤ b) ∧ Hid (Below w4.heap.size w4 wr)) (fun _ iv _ => f + c - (intOf iv).toNat)
 case atStart => exact ⟨0, f, _, by omega, by omega, rfl, rfl, Lib.hid rfl, HT0, Lib.hid (fun b hb => by cases hb; exact Nat.le_refl _), HX0⟩
 case round =>
  obtain ⟨k, q, v, hk, hq1, rfl, rfl, hq, hrw, hown, hx⟩ := hrel
  obtain ⟨wx, hwx⟩ : ∃ x, x = wr := ⟨_, rfl⟩
  rw [← hwx] at hrw hx ⊢
  clear hwx
  by_cases hlt : k < c
  ·
   have HGx := Lib.hid (HG4.out.kept hx.out)
   have HPx := Lib.hid (HP4.out.kept hx.out)
   have HDx := Lib.hid ((HD.out.kept HB4.out).kept hx.out)
   have hqlt : (q : Int) < (f : Int) + (c : Int) := by have := hq.out; omega
   go_wp2_with (first
    | ((with_reducible show OpW 43); refine wpList_loadv _ rfl 23 (.tmp 5) rfl 5 (by kernel_rfl) w.heap.size 0 Kx.cells rfl (BL.all HGx.out) rfl ?_)
    | ((with_reducible show OpW 44); refine wpList_loadv _ rfl 31 (.tmp 6) rfl 2 (by kernel_rfl) w1.heap.size 0 [.string (strB s), .int .i64 (i : Int)] rfl (BL.all HPx.out) rfl ?_)
    | (go_at_call 55; refine (rnonce_any Kx s i q wx HK.out HS32.out HI16.out hq1).mono ?_; rintro e w6 ⟨rfl, b1⟩; have HX6 := Lib.hid b1; have HW6 := Lib.hid (below_thenB hx.out hx.out.size b1); have HP6 := Lib.hid (HPx.out.kept b1); have HD6 := Lib.hid (HDx.out.kept b1); have HR6 := Lib.hid (hrw.out.kept b1); clear b1))
   have HTK : Hid ((tokL Kx s i d f (k + 1)).flatMap Tk.cells = (tokL Kx s i d f k).flatMap Tk.cells ++ [.string (strB s), .int .i64 (i : Int), .string (strB (nonceL Kx s i q)), .string (strB (tagL (nonceL Kx s i q) d))]) := Lib.hid (by rw [tokL_take, hq.out]; rfl)
   have HNl : Hid ((nonceL Kx s i q).length ≤ 64) := Lib.hid (by rw [nonceL_length]; decide)
   obtain ⟨N, hN⟩ : ∃ N, N = nonceL Kx s i q := ⟨_, rfl⟩
   rw [← hN] at HTK HNl ⊢
   clear hN
   obtain ⟨T, hT⟩ : ∃ T, T = tagL N d := ⟨_, rfl⟩
   rw [← hT] at HTK
   have HTT := Lib.hid hT
   clear hT
   refine Text.wp_region_text (fun w' => Below w6.heap.size w6 w') [(0, 4), (2, 4), (3, 4), (4, 4), (1, 0), (5, 2), (6, 4), (7, 2), (8, 3), (9, 4)] (by kernel_rfl) (by kernel_rfl) (fun _ _ _ _ _ h => h) ((Below.refl _ _).drew) ?_
   iterate 4 (refine Text.purek rfl rfl (fun K hK => ⟨_, fun w' => by go_simp <;> rfl, ?_⟩); go_simp; refine hK _ ?_; clear hK K)
   refine Text.heldk rfl rfl (fun K hK => ?_)
   refine ⟨_, fun w' hw' => exec_loadv 31 (.tmp 6) rfl 2 (by kernel_rfl) w1.heap.size 0 [.string (strB s), .int .i64 (i : Int)] rfl (BL.all (HP6.out.kept hw')) rfl, ?_⟩
   go_simp
   refine hK _ ?_
   clear hK K
   refine Text.eff rfl rfl (fun K hK => ?_)
   go_simp
   refine (rtag_any A n cp N d w6.drew HD6.out.drew HNl.out HN1.out).mono ?_
   rintro e w7 ⟨rfl, b1⟩
   rw [← HTT.out]
   have HX7 : Hid (Below w6.heap.size w6 w7) := Lib.hid ((Below.refl _ _).drew.trans (b1.mono (Nat.le_refl _)))
   refine hK _ _ HX7.out ?_
   clear hK K b1
   (refine Text.purek rfl rfl (fun K hK => ⟨_, fun w' => by go_simp <;> rfl, ?_⟩); go_simp; refine hK _ ?_; clear hK K)
   refine Text.eff rfl rfl (fun K hK => ?_)
   refine wp_bslice 33 60 1 _ rfl #[(0, .agg #[.string (strB s), .int .i64 (i : Int), .string (strB N), .string (strB T)])] (by rw [List.map_toArray]; rfl) [.string (strB s), .int .i64 (i : Int), .string (strB N), .string (strB T)] (bslTok s N T (i : Int) _) ?_
   intro w8 a1 a2 a3
   have HG8 := Lib.hid a1
   have HX8 : Hid (Below w6.heap.size w6 w8) := Lib.hid (below_then HX7.out a2)
   have HR8 := Lib.hid (HR6.out.kept HX8.out)
   refine hK _ _ HX8.out ?_
   clear hK K a1 a2 a3
   refine Text.last rfl rfl (fun K hK => ?_)
   obtain ⟨iS, i1, i2, i3, i4⟩ := info_some infoTk4
   refine wp_appRW _ (.tmp 47) (.tmp 54) 33 60 4 iS _ rfl Tryz.underlying33 i1 i2 i3 rfl v k _ rfl HR8.out w7.heap.size _ rfl HG8.out rfl (by intro u hu; simp only [List.mem_cons, List.not_mem_nil, or_false] at hu; rcases hu with rfl | rfl | rfl | rfl <;> rfl) (by rw [i4]; omega) (by omega) ?_
   intro v9 w9 ap
   have HR9 : Hid (RW w9 60 4 v9 (k + 1) ((tokL Kx s i d f (k + 1)).flatMap Tk.cells)) := Lib.hid (by rw [HTK.out]; exact ap.row)
   have HO9 : Hid (∀ b, v9.ownBlock = some b → w4.heap.size ≤ b) := Lib.hid (fun b hb => (ap.own b hb).elim (hown.out b) (fun h => Nat.le_trans (by have := HW6.out.size; have := HX8.out.size; omega) h))
   have HX9 : Hid (Below w4.heap.size w4 w9) := Lib.hid (((Kp.of_below (S := fun _ => False) (below_thenB HW6.out HW6.out.size HX8.out)).after ap.kp (fun j hj hS => by have := hown.out j hS; omega)).below (Nat.le_refl _) (fun _ h => h.elim))
   refine hK _ _ ?_
   clear hK K ap i1 i2 i3 i4
   (refine Text.purek rfl rfl (fun K hK => ⟨_, fun w' => by go_simp <;> rfl, ?_⟩); go_simp; refine hK _ ?_; clear hK K)
   refine Text.done ?_
   go_wp2_with fail
   go_roundw
   case rel => exact ⟨k + 1, q + 1, v9, by omega, by omega, by go_num, rfl, Lib.hid (by rw [hq.out]; omega), HR9, HO9, HX9⟩
   case measure => simp [intOf]; have := hq.out; omega
  ·
   obtain rfl : k = c := by omega
   have hqlt : ¬ (q : Int) < (f : Int) + (k : Int) := by have := hq.out; omega
   go_wp2_with fail
   go_ret2
   exact ⟨v, k, rfl, (by simp [tokL]), hrw.out, below_thenB HB4.out HB4.out.size hx.out⟩
end Go.Proofs.YtfcakjpljjnjnaaGreatDoor
/- Contracts of merkle.New, Tree.Len, Tree.Add. -/
namespace Go.Proofs.YtfcakjpljjnjnaaGreatDoor
open Go Go.RowKit Gf Sha

section
variable {P : Program} (w : World) {ops : Array Oper} {rest : List Oper} {o : Oper} {a : Act} {Q : Exit → Act → World → Prop}
end
end Go.Proofs.YtfcakjpljjnjnaaGreatDoor
/- Contracts of Tree.part, merkle.path, Tree.Path. -/
namespace Go.Proofs.YtfcakjpljjnjnaaGreatDoor
open Go Go.RowKit Gf Sha

/-- A part that the division of a tree makes. -/
def Al (s n : Nat) : Prop := ∃ j, n ≤ 2 ^ j ∧ s % 2 ^ j = 0
theorem Al.all (n : Nat) : Al 0 n := ⟨n, Nat.le_of_lt Nat.lt_two_pow_self, Nat.zero_mod _⟩
theorem Al.left {s n k : Nat} (h : Al s n) (hk : k ≤ n) : Al s k := let ⟨j, h1, h2⟩ := h; ⟨j, by omega, h2⟩
theorem pow_dvd_mod {s a b : Nat} (h : s % 2 ^ b = 0) (hab : a ≤ b) : s % 2 ^ a = 0 :=
 Nat.mod_eq_zero_of_dvd (Nat.dvd_trans (Nat.pow_dvd_pow 2 hab) (Nat.dvd_of_mod_eq_zero h))
theorem pow_le_exp {a b : Nat} (h : 2 ^ a ≤ 2 ^ b) : a ≤ b := (Nat.pow_le_pow_iff_right (by decide)).1 h
theorem Al.right {s n : Nat} (h : Al s n) (h2 : 2 ≤ n) (hn : n ≤ 256) : Al (s + spl n) (n - spl n) := by
 obtain ⟨j, h3, h4⟩ := h
 obtain ⟨s1, s2, s3, _, _⟩ := spl_parts h2 hn
 have e : spl n = 2 ^ (Lib.bitLen (n - 1) - 1) := rfl
 refine ⟨Lib.bitLen (n - 1) - 1, by omega, ?_⟩
 rw [e, Nat.add_mod_right]
 exact pow_dvd_mod h4 (pow_le_exp (by omega))
end Go.Proofs.YtfcakjpljjnjnaaGreatDoor
/- The reference's spots: plain; contract of ref44.has. -/
namespace Go.Proofs.YtfcakjpljjnjnaaGreatDoor
open Go Go.RowKit Gf Sha

end Go.Proofs.YtfcakjpljjnjnaaGreatDoor
/- Contract of ref44.Spots. -/
namespace Go.Proofs.YtfcakjpljjnjnaaGreatDoor
open Go Go.RowKit Gf Sha

end Go.Proofs.YtfcakjpljjnjnaaGreatDoor
/- Contract of ref44.Spots where its arguments are not valid. -/
namespace Go.Proofs.YtfcakjpljjnjnaaGreatDoor
open Go Go.RowKit Gf Sha

end Go.Proofs.YtfcakjpljjnjnaaGreatDoor
/- Contracts of the reference's Root, path, Path. -/
namespace Go.Proofs.YtfcakjpljjnjnaaGreatDoor
open Go Go.RowKit Gf Sha

theorem TS.suf {w : World} {g o n c : Nat} {m : List (List UInt8)} (h : TS w (some ⟨g, o, none⟩) n c m) {k : Nat} (hk : k ≤ n) : TS w (some ⟨g, o + k, none⟩) (n - k) (c - k) (m.drop k) := by
 refine ⟨by rw [List.length_drop, h.1], by have := h.2.1; omega, by have := h.2.2.1; omega, fun j hj => ?_⟩
 obtain ⟨g', o', e, hc⟩ := h.2.2.2 (k + j) (by omega)
 cases e
 refine ⟨g, o + k, rfl, ?_⟩
 have e2 : gR (m.drop k) j = gR m (k + j) := by
  have hl := h.1
  rw [gR_eq (by rw [List.length_drop]; omega), gR_eq (by omega), List.getElem_drop]
 show w.cell? ⟨g, o + k + j, none⟩ = some (.string (strB (gR (m.drop k) j)))
 rw [e2, Nat.add_assoc]
 exact hc
theorem TS.form {w : World} {A : Option Addr} {n c : Nat} {m : List (List UInt8)} (h : TS w A n c m) (hn : 0 < n) : ∃ g o, A = some ⟨g, o, none⟩ := by
 obtain ⟨g, o, e, _⟩ := h.2.2.2 0 hn
 exact ⟨g, o, e⟩

set_option maxRecDepth 100000 in
set_option maxHeartbeats 4000000 in
theorem rroot_any : ∀ (q n : Nat) (A : Option Addr) (c : Nat) (L : List (List UInt8)) (w : World), n ≤ q → TS w A n c L → 1 ≤ n → n ≤ 250 → Lv L →
  Calls Tryz.prog 86 #[.slice A n c] w fun e w' => e = .returned (.string (strB (rt L))) ∧ Below w.heap.size w w' := by
 intro q
 induction q with
 | zero => intro n A c L w hq _ h1; omega
 | succ q ih =>
  intro n A c L w hq h h1 hn hv
  have H := Lib.hid h
  have IH := Lib.hid ih
  have hcn : n ≤ c := h.2.1
  have HLN := Lib.hid h.1
  by_cases hn1 : n = 1
  ·
   subst hn1
   obtain ⟨g, o, rfl, q0⟩ := h.2.2.2 0 (by omega)
   have HR := Lib.hid (rt_one h.1)
   replace q0 : w.cell? ⟨g, o + 0, none⟩ = some (.string (strB (gR L 0))) := q0
   rw [Nat.add_zero, ← HR.out] at q0
   obtain ⟨R, hR⟩ : ∃ R, R = rt L := ⟨_, rfl⟩
   rw [← hR] at q0 ⊢
   clear h ih hR
   go_enter Tryz.func86, Tryz.ntmps86
   go_wp2_with fail
   go_ret
   exact ⟨rfl, Below.refl _ _⟩
  ·
   obtain ⟨s1, s2, s3, _, _⟩ := spl_parts (n := n) (by omega) (by omega)
   obtain ⟨g, o, rfl⟩ := h.form (by omega)
   have e0 : ((n : Int) == 0) = false := by rw [beq_eq_false_iff_ne]; omega
   have e1 : ((n : Int) == 1) = false := by rw [beq_eq_false_iff_ne]; omega
   have hRT := rt_two (L := L) (by rw [h.1]; omega) (by rw [h.1]; omega)
   rw [h.1] at hRT
   obtain ⟨k, hk⟩ : ∃ k, k = spl n := ⟨_, rfl⟩
   rw [← hk] at s1 s2 s3 hRT
   have HKS := Lib.hid hk.symm
   have HP1 := Lib.hid (h.pre (k := k) (by omega))
   have HP2 := Lib.hid (h.suf (k := k) (by omega))
   obtain ⟨R1, hR1⟩ : ∃ R, R = rt (L.take k) := ⟨_, rfl⟩
   obtain ⟨R2, hR2⟩ : ∃ R, R = rt (L.drop k) := ⟨_, rfl⟩
   have HL1 : Hid (R1.length ≤ 1000) := Lib.hid (by
    rw [hR1, rt_length (hv.take k) (by rw [List.length_take, h.1]; omega) (by rw [List.length_take, h.1]; omega)]; decide)
   have HL2 : Hid (R2.length ≤ 1000) := Lib.hid (by
    rw [hR2, rt_length (hv.drop k) (by rw [List.length_drop, h.1]; omega) (by rw [List.length_drop, h.1]; omega)]; decide)
   rw [← hR1, ← hR2] at hRT
   rw [hRT]
   have HR1 := Lib.hid hR1.symm
   have HR2 := Lib.hid hR2.symm
   have hkn : k ≤ n := by omega
   have hkc : k ≤ c := by omega
   have hck : ¬ c = k := by omega
   have hck2 : (k : Int) ≤ (n : Int) := by omega
   have hck3 : (k : Int) ≤ (c : Int) := by omega
   clear h ih hk hR1 hR2 hRT
   go_enter Tryz.func86, Tryz.ntmps86
   go_wp2_with (go_at_call 126; refine (rsplit_any n _ (by omega) (by omega)).mono ?_; rintro e w1 ⟨rfl, hw⟩; rw [hw]; clear hw w1; rw [HKS.out])
   refine Text.wp_region_text (fun _ => True) [(0, 4), (1, 4), (2, 4), (4, 4), (5, 4), (6, 4), (3, 2), (7, 2), (8, 2), (9, 4)] (by kernel_rfl) (by kernel_rfl) (fun _ _ _ _ _ h => h) (trivial) ?_
   iterate 6 (refine Text.purek rfl rfl (fun K hK => ⟨_, fun w' => by go_simp <;> rfl, ?_⟩); go_simp; refine hK _ ?_; clear hK K)
   refine Text.eff rfl rfl (fun K hK => ?_)
   go_simp
   refine (IH.out k _ c _ _ (by omega) HP1.out.drew s1 (by omega) (hv.take k)).mono ?_
   rintro e w2 ⟨rfl, b1⟩
   rw [HR1.out]
   have HB2 : Hid (Below w.heap.size w w2) := Lib.hid (below_ofDrew b1)
   refine hK _ _ trivial ?_
   clear hK K b1
   refine Text.eff rfl rfl (fun K hK => ?_)
   go_simp
   refine (IH.out (n - k) _ (c - k) _ w2 (by omega) (HP2.out.kept HB2.out) (by omega) (by omega) (hv.drop k)).mono ?_
   rintro e w3 ⟨rfl, b1⟩
   rw [HR2.out]
   have HB3 := Lib.hid (below_then HB2.out b1)
   refine hK _ _ trivial ?_
   clear hK K b1
   refine Text.eff rfl rfl (fun K hK => ?_)
   go_simp
   refine (rnode_any R1 R2 w3 HL1.out HL2.out).mono ?_
   rintro e w4 ⟨rfl, b1⟩
   have HB4 := Lib.hid (below_then HB3.out b1)
   refine hK _ _ trivial ?_
   clear hK K b1
   (refine Text.purek rfl rfl (fun K hK => ⟨_, fun w' => by go_simp <;> rfl, ?_⟩); go_simp; refine hK _ ?_; clear hK K)
   refine Text.done ?_
   go_wp2_with fail
   go_ret
   exact ⟨rfl, HB4.out⟩

end Go.Proofs.YtfcakjpljjnjnaaGreatDoor
/- The last step of a law's row: the call returned true and nothing older has changed, so the arguments read as before. -/
namespace Go.Proofs.YtfcakjpljjnjnaaGreatDoor
open Go.ChangeShapes Go.WideShapes Go.ChangeAt Go.RowKit

section
variable {H : Type} {enc : TypeId × Value → H} {P : Program} {W W' : World} {sp : Nat → Bool}

theorem args_stay (hl : laidOutB P = true) : ∀ {ts : List TypeId} {vs : List Value} {ds : List (DataW H)} {ps : List MemPlace}, (∀ t ∈ ts, P.readableRec t = true ∧ t < P.types.size) →
  DataW.TrodAll enc P W 0 (fun _ => true) true ts vs ds ps → (∀ p ∈ ps, W.sameAt W' p) → (∀ p ∈ ps, sp p.block = true) → DataW.TrodAll enc P W' 0 sp true ts vs ds ps
 | [], _, _, _, _, h, _, _ => by
  obtain ⟨rfl, rfl, rfl⟩ := trodAll_nil h
  exact trodAll_mk0
 | t :: ts, _, _, _, ht, h, hs, hp => by
  obtain ⟨v, vs, d, ds, p, q, rfl, rfl, rfl, h1, h2⟩ := trodAll_cons h
  have h3 := WideElems.Trod_stays hl (ht t (by simp)).1 (ht t (by simp)).2 h1 (sp' := sp) (fun x hx => hs x (List.mem_append_left _ hx)) (fun x hx => hp x (List.mem_append_left _ hx))
  exact trodAll_cons_mk h3 (args_stay hl (fun t' ht' => ht t' (by simp [ht'])) h2 (fun x hx => hs x (List.mem_append_right _ hx)) (fun x hx => hp x (List.mem_append_right _ hx)))

theorem law_post {f : Func} {s : ChangeSpec} {apart fresh handsOn again : Bool} {args : Array Value} {ds : List (DataW H)} {before : List MemPlace} {t : TypeId}
  (hl : laidOutB P = true) (hvars : s.vars = []) (hW : DataW.Whole enc P f.params.toList s.vars apart W args.toList ds [] before)
  (hts : ∀ t ∈ f.params.toList, P.readableRec t = true ∧ t < P.types.size) (hrt : f.resultTypes = #[t]) (ht : P.underlying t = some .bool)
  (h1 : (s.fn H (ds ++ [])).results = [.lit (.bool true)]) (h2 : (s.fn H (ds ++ [])).args = ds) (h3 : (s.fn H (ds ++ [])).vars = [])
  (hb : Below W.heap.size W W') : s.post enc P f apart fresh handsOn again W args (.bool true) W' := by
 have hlt : ∀ p ∈ before, p.block < W.heap.size := fun p hp => hW.lt p hp
 have hW2 := hW
 obtain ⟨p, q, hA, hV, rfl, hz, hn⟩ := hW
 rw [hvars] at hV
 obtain ⟨_, rfl⟩ := trodVars_none hV
 simp only [List.append_nil] at hlt hW2 hz hn
 have stay : ∀ sp : Nat → Bool, (∀ x ∈ p, sp x.block = true) → DataW.TrodAll enc P W' 0 sp true f.params.toList args.toList ds p := fun sp hsp =>
  args_stay hl hts hA (fun x hx => hb.same (hlt x hx)) hsp
 have res : ∀ (b : Nat) (sp : Nat → Bool) (hd : Bool), DataW.TrodAll enc P W' b sp hd f.resultTypes.toList ((Value.bool true).resultList f.resultTypes.size) [.lit (.bool true)] [] := fun b sp hd => by
  rw [hrt]
  exact trodAll_cons_mk (shut_bool ht _) trodAll_mk0
 refine ⟨ds, [], p, [], p, [], hW2, by rw [h1]; exact res _ _ _, by rw [h2]; exact stay _ (fun x hx => by simpa using hlt x hx), by rw [h3, hvars]; exact rfl, World.keptBut_mono (fun x hx => ⟨hx, .inr (by simpa using hx)⟩) (hb.frame (· ∈ p)), fun _ => ⟨?_, ?_⟩⟩
 ·
  exact ok_one hrt rfl (okWide_bool_mk ht _)
 ·
  refine ⟨_, [], ([] ++ p) ++ [], ⟨[] ++ p, [], trodAll_append (stay _ (fun _ _ => rfl)) (res _ _ _), by rw [hvars]; exact rfl, rfl, ?_, ?_⟩, ?_⟩
  ·
   intro b off hp
   have hin : MemPlace.cell b off ∈ p := by simpa using hp
   rw [hb.frozen (hlt _ hin)]
   exact hz b off hin
  ·
   intro ha
   simpa using hn ha
  ·
   intro x hx _
   simpa using hx
end
theorem own : ownKnob Tryz.prog.godebug = none := by kernel_rfl
theorem laidOut : laidOutB Tryz.prog = true := by kernel_rfl
end Go.Proofs.YtfcakjpljjnjnaaGreatDoor
/- Arguments that are slices of ints and slices of byte slices, opened. -/
namespace Go.Proofs.YtfcakjpljjnjnaaGreatDoor
open Go.ChangeShapes Go.WideShapes Go.ChangeAt Go.RowKit Gf

section
variable {H : Type} {enc : TypeId × Value → H} {P : Program} {W : World}

theorem mem_weightsAll {e : TypeId} {n : Nat} {d : DataW H} (hn : n ∈ d.weights P e) : ∀ {ds : List (DataW H)}, d ∈ ds → n ∈ DataW.weightsAll P e ds
 | [], h => by cases h
 | d0 :: ds, h => by
  simp only [DataW.weightsAll, List.mem_append]
  rcases List.mem_cons.1 h with rfl | h
  ·
   exact .inl hn
  ·
   exact .inr (mem_weightsAll hn h)

theorem addr_spot {a : Addr} {v : Value} (h : W.cell? a = some v) : a.spot = none := by
 cases hs : a.spot with
 | none => rfl
 | some s =>
  simp only [World.cell?] at h
  split at h
  ·
   simp [hs] at h
  ·
   cases h
theorem addr_addL {a : Addr} {k : Nat} {v : Value} (h : W.cell? (a.add k) = some v) : W.cell? ⟨a.block, a.off + k, none⟩ = some v := by
 have h1 := addr_spot h
 by_cases h0 : k = 0
 ·
  subst h0
  have e : a.add 0 = a := by simp [Addr.add]
  rw [e] at h h1
  obtain ⟨b, o, s⟩ := a
  simp only at h1
  subst h1
  exact h
 ·
  simp only [Addr.add, h0, if_false] at h
  exact h

theorem byte_of {n : Int} (h : (Lit.int .u8 n).wf = true) : bv (UInt8.ofNat n.toNat) = n := by
 simp only [Lit.wf, Bool.and_eq_true, decide_eq_true_eq] at h
 have h1 : (0 : Int) ≤ n := by have := h.1; simpa [IntKind.min, IntKind.signed] using this
 have h2 : n ≤ 255 := by have := h.2; simpa [IntKind.max, IntKind.signed, IntKind.bits] using this
 exact bv_ofNat n h1 (by omega)

end
end Go.Proofs.YtfcakjpljjnjnaaGreatDoor
/- Arguments that are slices of bytes, opened. -/
namespace Go.Proofs.YtfcakjpljjnjnaaGreatDoor
open Go.ChangeShapes Go.WideShapes Go.ChangeAt Go.RowKit Gf

section
variable {H : Type} {enc : TypeId × Value → H} {P : Program} {W : World}

theorem open_bs {t e : TypeId} {fuel len cap : Nat} {A : Option Addr} {d : DataW H} {ps : List MemPlace} (ht : P.underlying t = some (.slice e)) (he : P.underlying e = some (.int .u8)) (hc : P.cellsOf e = 1) (hby : P.bytesOf e = 1)
  (h : DataW.trod enc P W 0 (fun _ => true) true fuel t [.slice A len cap] = some (d, ps)) (hsz : ∀ n ∈ d.weights P t, n ≤ reachBytes) : ∃ z : List UInt8, BS W A len cap z := by
 rcases open_ints ht he hc h with ⟨hcs, _⟩ | ⟨a, len', cap', zs, hcs, _, hl, _, hz, hx, hcell, hwf⟩
 ·
  injection hcs with h1
  injection h1 with h1 h2 h3
  subst h1 h2 h3
  exact ⟨[], BS.nil⟩
 ·
  injection hcs with h1
  injection h1 with h1 h2 h3
  subst h1 h2 h3
  simp only [if_true] at hz
  injection hx with hd _
  subst hd
  have hw := hsz ((zs.take len).length * 1 + (zs.drop len).length * 1) (by simp [DataW.weights, ht, hby, lits])
  refine ⟨(zs.take len).map fun z => UInt8.ofNat z.toNat, by rw [List.length_map, List.length_take]; omega, hl, ?_, fun k hk => ⟨a.block, a.off, ?_, ?_⟩⟩
  ·
   simp only [List.length_take, List.length_drop, reachBytes] at hw
   unfold lim
   omega
  ·
   have := addr_spot (W := W) (hcell 0 (by omega))
   have e : a.add 0 = a := by simp [Addr.add]
   rw [e] at this
   obtain ⟨b, o, s⟩ := a
   simp only at this
   subst this
   rfl
  ·
   rw [addr_addL (hcell k (by omega))]
   have hkz : k < zs.length := by omega
   have hkl : k < (zs.take len).length := by rw [List.length_take]; omega
   show _ = some (B (gB _ k))
   rw [gB_eq (by rw [List.length_map]; exact hkl), B]
   simp only [List.getElem_map, List.getElem_take]
   rw [byte_of (hwf _ (List.getElem_mem hkz))]
   simp [List.getD, List.getElem?_eq_getElem hkz]
end
end Go.Proofs.YtfcakjpljjnjnaaGreatDoor
/- The tables of sha256 and hmac, out of the condition that the row's card ties to the program's text. -/
namespace Go.Proofs.YtfcakjpljjnjnaaGreatDoor
open Go Go.ChangeShapes Go.WideShapes Go.ChangeAt Go.RowKit Gf Sha

section
variable {H : Type} {enc : TypeId × Value → H} {P : Program} {w : World} {base : Nat} {spare : Nat → Bool} {held : Bool} {fuel : Nat} {t e : TypeId} {cs : List Value} {ps : List MemPlace} {k : IntKind}
theorem trod_ints (zs : List Int) (ht : P.underlying t = some (.array zs.length e)) (he : P.underlying e = some (.int k)) (ce : P.cellsOf e = 1) (ct : P.cellsOf t = zs.length)
  (h : DataW.trod enc P w base spare held fuel t cs = some (.agg (zs.map fun z => .lit (.int k z)), ps)) : cs = zs.map (.int k ·) := by
 obtain ⟨xs, m, rfl, hx, hl, hn, hel⟩ := DataW.trod_array ht h
 rw [ct] at hl
 simp only [Prod.mk.injEq, DataW.agg.injEq] at hx
 refine List.ext_getElem (by simp [hl]) (fun i h1 h2 => ?_)
 have hi : i < zs.length := by omega
 have hg := hel i hi
 rw [ce, Nat.mul_one, List.getElem?_eq_getElem (by omega)] at hg
 obtain ⟨z, e1, e2, _⟩ := DataW.trod_int he hg
 have h3 : (xs.map (·.1))[i]'(by simp; omega) = DataW.lit (.int k zs[i]) := by
  have : (xs.map (·.1)) = zs.map fun z => DataW.lit (.int k z) := hx.1.symm
  simp only [this, List.getElem_map]
 rw [List.getElem_map, e2] at h3
 simp only [DataW.lit.injEq, Lit.int.injEq, true_and] at h3
 subst h3
 have e3 : (cs.drop i).take 1 = [cs[i]] := by
  rw [List.drop_eq_getElem_cons h1]; rfl
 rw [e3] at e1
 simp only [List.cons.injEq, and_true] at e1
 rw [e1, List.getElem_map]
theorem cells_at {g : Nat} {n : String} {cs : Array Value} {l : List Value} (hg : P.globalNamed n = some g) (h : w.var? P n = some cs) (e : cs.toList = l) : At w g 0 l := by
 intro j v hj
 rw [Nat.zero_add, World.var?_cell hg h, ← hj, ← e]
 simp
end

theorem gPads : Tryz.prog.globalNamed "kinkeep/hmac.pads" = some 0 := by kernel_rfl
theorem gIni : Tryz.prog.globalNamed "kinkeep/sha256.initial" = some 1 := by kernel_rfl
theorem gCon : Tryz.prog.globalNamed "kinkeep/sha256.constants" = some 2 := by kernel_rfl
theorem tPads : (Tryz.prog.globals[0]?).map (·.type) = some 158 := by kernel_rfl
theorem tIni : (Tryz.prog.globals[1]?).map (·.type) = some 153 := by kernel_rfl
theorem tCon : (Tryz.prog.globals[2]?).map (·.type) = some 199 := by kernel_rfl
/-- What the rows list. -/
def laid3 : List (String × DataW Unit) := [("kinkeep/sha256.initial", Rows.laid_kinkeep_sha256_initial), ("kinkeep/sha256.constants", Rows.laid_kinkeep_sha256_constants), ("kinkeep/hmac.pads", Rows.laid_kinkeep_hmac_pads)]

set_option maxRecDepth 100000 in
theorem tabs_of_laid {W : World} (h : laidMetH Tryz.prog laid3 W) : Tabs W := by
 rw [MakeChecks.laidMetH_plain _ _ _ (by kernel_rfl)] at h
 obtain ⟨ps, ⟨g0, t0, cs0, f0, p0, q0, hg0, ht0, hv0, hd0, ⟨g1, t1, cs1, f1, p1, q1, hg1, ht1, hv1, hd1, ⟨g2, t2, cs2, f2, p2, q2, hg2, ht2, hv2, hd2, _, _⟩, _⟩, _⟩, _, _⟩ := h
 obtain rfl := Option.some.inj (gIni.symm.trans hg0)
 obtain rfl := Option.some.inj (gCon.symm.trans hg1)
 obtain rfl := Option.some.inj (gPads.symm.trans hg2)
 obtain rfl := Option.some.inj (tIni.symm.trans ht0)
 obtain rfl := Option.some.inj (tCon.symm.trans ht1)
 obtain rfl := Option.some.inj (tPads.symm.trans ht2)
 have e0 := trod_ints ([ini.a, ini.b, ini.c, ini.d, ini.e, ini.f, ini.g, ini.h].map wv) Tryz.underlying153 Tryz.underlying152 (by kernel_rfl) (by kernel_rfl) hd0
 have e1 := trod_ints (ks.map wv) Tryz.underlying199 Tryz.underlying152 (by kernel_rfl) (by kernel_rfl) hd1
 have e2 := trod_ints [54, 92] Tryz.underlying158 Tryz.underlying5 (by kernel_rfl) (by kernel_rfl) hd2
 exact ⟨cells_at gPads hv2 e2, cells_at gIni hv0 e0, cells_at gCon hv1 (by rw [e1]; rfl)⟩
end Go.Proofs.YtfcakjpljjnjnaaGreatDoor
/- Arguments opened: strings; the heap that the door leaves meets the rows' condition. -/
namespace Go.Proofs.YtfcakjpljjnjnaaGreatDoor
open Go Go.ChangeShapes Go.WideShapes Go.ChangeAt Go.RowKit Gf Sha

section
variable {H : Type} {enc : TypeId × Value → H} {P : Program} {W : World} {base b0 : Nat} {sp : Nat → Bool} {held : Bool} {r : Reach}
end

set_option maxRecDepth 100000 in
theorem door_met (os : Os) (args : Array Value) : laidMetH Tryz.prog laid3 ((World.doorLaid Tryz.prog 24 os).forCall (fun _ _ => 0) ⟨#[], args, []⟩).memory :=
 laidMetH_of_parts3 (fuel := 8) (laidMet_of_run' 8 (by kernel_rfl) (by kernel_rfl)) (by kernel_rfl) (by kernel_rfl)
end Go.Proofs.YtfcakjpljjnjnaaGreatDoor
