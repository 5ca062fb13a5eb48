/- Several texts in one: Mt2, Tok, Ch2, Rvk, Sp, So. -/
import Derived.Test.YtheijpjfpaghfaaGreatDoorC13
import Derived.Test.YtheijpjfpaghfaaGreatDoorC10
import Derived.Test.YtheijpjfpaghfaaGreatDoorC8
import Derived.Test.YtheijpjfpaghfaaGreatDoorC11
import Derived.Test.YtheijpjfpaghfaaGreatDoorC7
import Derived.Test.YtheijpjfpaghfaaGreatDoorShelf
import Derived.Sort.OwnSortedInts
/- The levels of a growing tree: plainly, and in memory. -/
namespace Go.Proofs.YtheijpjfpaghfaaGreatDoor
open Go Go.RowKit Gf Sha

/-- The number of levels. -/
def nl (n : Nat) : Nat := if n = 0 then 1 else Lib.bitLen n
end Go.Proofs.YtheijpjfpaghfaaGreatDoor
/- Contract of challenge.Tokens where its arguments are valid. -/
namespace Go.Proofs.YtheijpjfpaghfaaGreatDoor
open Go Go.RowKit Gf Sha

/-- The token number n. -/
def tokN (K : Ky) (s : List UInt8) (i : Nat) (d : List UInt8) (n : Nat) : Tk := ⟨s, i, nonceL K s i n, tagL (nonceL K s i n) d⟩
def tokL (K : Ky) (s : List UInt8) (i : Nat) (d : List UInt8) (f c : Nat) : List Tk := (List.range c).map fun k => tokN K s i d (f + k)
def Tk.zero : Tk := ⟨[], 0, [], []⟩
/-- The first k are made. -/
def tokP (K : Ky) (s : List UInt8) (i : Nat) (d : List UInt8) (f c k : Nat) : List Tk := (List.range k).map (fun k => tokN K s i d (f + k)) ++ List.replicate (c - k) Tk.zero
theorem tokP_zero (K : Ky) (s : List UInt8) (i : Nat) (d : List UInt8) (f c : Nat) : tokP K s i d f c 0 = List.replicate c Tk.zero := by simp [tokP]
theorem tokP_all (K : Ky) (s : List UInt8) (i : Nat) (d : List UInt8) (f c : Nat) : tokP K s i d f c c = tokL K s i d f c := by simp [tokP, tokL]
theorem tokP_length (K : Ky) (s : List UInt8) (i : Nat) (d : List UInt8) (f c k : Nat) (h : k ≤ c) : (tokP K s i d f c k).length = c := by simp [tokP]; omega
theorem tokP_set (K : Ky) (s : List UInt8) (i : Nat) (d : List UInt8) (f c k : Nat) (h : k < c) : (tokP K s i d f c k).set k (tokN K s i d (f + k)) = tokP K s i d f c (k + 1) := by
 have e : c - k = (c - (k + 1)) + 1 := by omega
 unfold tokP
 rw [List.set_append, if_neg (by simp), List.length_map, List.length_range, Nat.sub_self, e, List.replicate_succ, List.set_cons_zero, List.range_succ, List.map_append, List.append_assoc]
 rfl
theorem zeroRow (c : Nat) : ((List.replicate c ()).flatMap fun _ => Tk.zero.cells) = (List.replicate c Tk.zero).flatMap Tk.cells := by
 induction c with
 | zero => rfl
 | succ c ih => rw [List.replicate_succ, List.replicate_succ, List.flatMap_cons, List.flatMap_cons, ih]
theorem infoTok : (Tryz.prog.info? 45).map (fun i => (i.zero, i.size, i.bytes)) = some (some (.agg Tk.zero.cells.toArray), Tk.zero.cells.length, 56) := by kernel_rfl
/-- What Tokens leaves. -/
def TokRet (l : List Tk) (w : World) (e : Ending) (w' : World) : Prop :=
 ∃ g n, e = .returned (.tuple #[.slice (some ⟨g, 0, none⟩) n n, .int .i64 0]) ∧ l.length = n ∧ w.heap.size ≤ g ∧ BL w' g 45 (l.flatMap Tk.cells) ∧ Below w.heap.size w w'

set_option maxRecDepth 100000 in
set_option maxHeartbeats 4000000 in
theorem tokens_yes (Kx : Ky) (s d : List UInt8) (i n cp f c : Nat) (A : Option Addr) (w : World) (hd : BS w A n cp d) (hT : Tabs w) (hK : okK Kx = true) (hI : idB s i = true) (hD : dataB n = true) (hR : rangeB f c = true) :
  Calls Tryz.prog 24 #[Kx.val, .agg #[.string (strB s), .int .i64 (i : Int)], .slice A n cp, .int .i64 (f : Int), .int .i64 (c : Int)] w (TokRet (tokL Kx s i d f c) w) := by
 have HD := Lib.hid hd
 have HT := Lib.hid hT
 have HK := Lib.hid hK
 have HI := Lib.hid hI
 have HDB := Lib.hid hD
 have HR := Lib.hid hR
 have hI2 : s.length = 32 ∧ i < 16 := by
  simp only [idB, Bool.and_eq_true, decide_eq_true_eq] at hI
  exact ⟨hI.1, by omega⟩
 have hR2 : (f : Int) ≤ 1099511627776 ∧ (c : Int) ≤ 256 ∧ (f : Int) + c ≤ 1099511627776 := by
  simp only [rangeB, Bool.and_eq_true, decide_eq_true_eq] at hR
  exact ⟨hR.2.1, hR.2.2.2.1, hR.2.2.2.2⟩
 have HS32 := Lib.hid hI2.1
 have HI16 := Lib.hid hI2.2
 obtain ⟨hf1, hc1, hfc⟩ := hR2
 clear hd hT hK hI hD hR hI2
 go_enter Tryz.func24, Tryz.ntmps24
 go_wp2_with (first
  | ((with_reducible show OpW 5); refine wpList_box _ rfl 68 (.tmp 0) rfl Kx.cells rfl ?_; intro w1 a1 a2 a3; have HG1 := Lib.hid a1; have HB1 := Lib.hid a2; have HZ1 := Lib.hid a3; clear a1 a2 a3)
  | ((with_reducible show OpW 6); refine wpList_box _ rfl 39 (.tmp 1) rfl [.string (strB s), .int .i64 (i : Int)] rfl ?_; intro w2 a1 a2 a3; have HP2 := Lib.hid a1; have HB2 := Lib.hid (below_then HB1.out (a2.mono (Nat.le_refl _))); have HG2 := Lib.hid (HG1.out.kept a2); clear a1 a2 a3)
  | ((with_reducible show OpW 15); refine wpList_loadv _ rfl 68 (.tmp 5) rfl 5 (by kernel_rfl) w.heap.size 0 Kx.cells rfl (BL.all HG2.out) rfl ?_)
  | (go_at_call 60; refine (areKeys_any Kx w2).mono ?_; rintro e w3 ⟨rfl, b1⟩; rw [HK.out]; have HB3 := Lib.hid (below_thenB HB2.out HB2.out.size b1); have HG3 := Lib.hid (HG2.out.kept b1); have HP3 := Lib.hid (HP2.out.kept b1); have q0 := HP3.out.get (j := 0) rfl; have q1 := HP3.out.get (j := 1) rfl; clear b1)
  | (go_at_call 33; refine (isID_any s (i : Int) w3).mono ?_; rintro e w4 ⟨rfl, b1⟩; rw [HI.out]; have HB4 := Lib.hid (below_thenB HB3.out HB3.out.size b1); have HG4 := Lib.hid (HG3.out.kept b1); have HP4 := Lib.hid (HP3.out.kept b1); clear b1 q0 q1)
  | (go_at_call 61; refine (isData_any A n cp w4).mono ?_; rintro e w' ⟨rfl, rfl⟩; rw [HDB.out])
  | (go_at_call 62; refine (isRange_any (f : Int) (c : Int) w4).mono ?_; rintro e w' ⟨rfl, rfl⟩; rw [HR.out])
  | ((with_reducible show OpW 35); refine wpList_mkv _ rfl 37 45 _ _ rfl Tk.zero.cells (by decide) 56 Tryz.underlying37 infoTok c c _ _ rfl rfl rfl rfl (Nat.le_refl _) (by omega) (by omega) ?_; intro w5 a1 a2 a3; rw [zeroRow, ← tokP_zero Kx s i d f c] at a1; have HL5 := Lib.hid a1; have HX5 := Lib.hid a2; have HZ5 := Lib.hid a3; clear a1 a2 a3))
 have HX5' : Hid (Below w4.heap.size w4 w5) := Lib.hid HX5.out
 have hcl : 0 ≤ (c : Int) := by omega
 go_loopw [38] (fun iv wr => ∃ k : Nat, k ≤ c ∧ iv = .int .i64 (k : Int) ∧ Hid (BL wr w4.heap.size 45 ((tokP Kx s i d f c k).flatMap Tk.cells)) ∧ Hid (Below w4.heap.size w4 wr)) (fun iv _ => c - (intOf iv).toNat)
 case atStart => exact ⟨0, by omega, rfl, HL5, HX5'⟩
 case round =>
  obtain ⟨k, hk, rfl, hl, hx⟩ := hrel
  obtain ⟨wx, hwx⟩ : ∃ x, x = wr := ⟨_, rfl⟩
  rw [← hwx] at hl hx ⊢
  clear hwx
  by_cases hlt : k < c
  ·
   have HGx := Lib.hid (HG4.out.kept hx.out)
   have HPx := Lib.hid (HP4.out.kept hx.out)
   have HTx := Lib.hid ((HT.out.kept HB4.out).kept hx.out)
   have HDx := Lib.hid ((HD.out.kept HB4.out).kept hx.out)
   have hfk : (f : Int) + (k : Int) ≤ 1099511627776 := by omega
   obtain ⟨fk, hfk2⟩ : ∃ fk, fk = f + k := ⟨_, rfl⟩
   have HFK : Hid ((f : Int) + (k : Int) = ((fk : Nat) : Int)) := Lib.hid (by omega)
   have HFN : Hid (fk ≤ 1099511627776) := Lib.hid (by omega)
   have HFE := Lib.hid hfk2
   clear hfk2
   go_wp2_with (first
    | ((with_reducible show OpW 41); refine wpList_loadv _ rfl 68 (.tmp 5) rfl 5 (by kernel_rfl) w.heap.size 0 Kx.cells rfl (BL.all HGx.out) rfl ?_)
    | ((with_reducible show OpW 42); refine wpList_loadv _ rfl 39 (.tmp 6) rfl 2 (by kernel_rfl) w1.heap.size 0 [.string (strB s), .int .i64 (i : Int)] rfl (BL.all HPx.out) rfl ?_)
    | (go_at_call 63; rw [HFK.out]; refine (nonce_any Kx s i fk wx HTx.out HK.out HS32.out HI16.out HFN.out).mono ?_; rintro e w6 ⟨rfl, b1⟩; have HX6 := Lib.hid b1; clear b1))
   have HX6' := Lib.hid (below_then hx.out (HX6.out.mono (Nat.le_refl _)))
   have HXw : Hid (Below w4.heap.size w4 w6) := Lib.hid (hx.out.trans (HX6.out.mono (by have := hx.out.size; omega)))
   have HQ : Hid (∀ w', Below w4.heap.size w4 w' → w'.cell? ⟨w1.heap.size, 0, none⟩ = some (.string (strB s)) ∧ w'.cell? ⟨w1.heap.size, 1, none⟩ = some (.int .i64 (i : Int))) := Lib.hid (fun w' hb => ⟨(HP4.out.kept hb).get (j := 0) rfl, (HP4.out.kept hb).get (j := 1) rfl⟩)
   have HL6 := Lib.hid (hl.out.kept HX6.out)
   have HTL : Hid (((tokP Kx s i d f c k).flatMap Tk.cells).length = c * 4) := Lib.hid (by rw [flat_length Tk.cells_length, tokP_length _ _ _ _ _ _ _ (by omega)])
   have HST : Hid (splice ((tokP Kx s i d f c k).flatMap Tk.cells) (k * 4) (tokN Kx s i d fk).cells = (tokP Kx s i d f c (k + 1)).flatMap Tk.cells) := Lib.hid (by
    rw [flat_splice Tk.cells_length _ k (by rw [tokP_length _ _ _ _ _ _ _ (by omega)]; exact hlt), HFE.out, tokP_set _ _ _ _ _ _ _ hlt])
   refine Text.wp_region_text (fun w' => w'.cell? ⟨w1.heap.size, 0, none⟩ = some (.string (strB s)) ∧ w'.cell? ⟨w1.heap.size, 1, none⟩ = some (.int .i64 (i : Int))) [(0, 4), (1, 4), (3, 4), (4, 4), (5, 4), (2, 0), (6, 2), (7, 4), (8, 4), (9, 2)] (by kernel_rfl) (by kernel_rfl) (fun _ _ _ _ _ h => h) (HQ.out _ HXw.out.drew) ?_
   iterate 5 (refine Text.purek rfl rfl (fun K hK => ⟨_, fun w' => by go_simp <;> rfl, ?_⟩); go_simp; refine hK _ ?_; clear hK K)
   (refine Text.heldk rfl rfl (fun K hK => ⟨_, fun w' hw' => by go_simp <;> rfl, ?_⟩); go_simp; refine hK _ ?_; clear hK K)
   refine Text.eff rfl rfl (fun K hK => ?_)
   go_simp
   refine (tag_any A n cp (nonceL Kx s i fk) d w6.drew ((HDx.out.kept HX6.out).drew) ((HTx.out.kept HX6.out).drew) (by rw [nonceL_length]; decide)).mono ?_
   rintro e w7 ⟨rfl, b7⟩
   have HX7 : Hid (Below w4.heap.size w4 w7) := Lib.hid (HXw.out.drew.trans (b7.mono (by have := HXw.out.size; exact this)))
   have HL7 := Lib.hid ((HL6.out.drew).kept b7)
   refine hK _ _ (HQ.out _ HX7.out) ?_
   clear hK K b7
   iterate 2 (refine Text.purek rfl rfl (fun K hK => ⟨_, fun w' => by go_simp <;> rfl, ?_⟩); go_simp; refine hK _ ?_; clear hK K)
   refine Text.eff rfl rfl (fun K hK => ?_)
   refine wp_storev 45 (.tmp 55) (.tmp 54) rfl 4 (by kernel_rfl) w4.heap.size (k * 4) _ _ (tokN Kx s i d fk).cells rfl rfl HL7.out rfl (Tk.one _) (by rw [HTL.out]; omega) ?_
   intro w8 a1 a2 a3
   rw [HST.out] at a1
   have HL8 := Lib.hid a1
   have HX8 : Hid (Below w4.heap.size w4 w8) := Lib.hid (((Kp.of_below (S := fun _ => False) HX7.out).after a2 (fun i hi e => by omega)).below (Nat.le_refl _) (fun _ h => h.elim))
   refine hK _ _ (HQ.out _ HX8.out) ?_
   clear hK K a1 a2 a3
   refine Text.done ?_
   go_wp2_with fail
   go_roundw
   case rel => exact ⟨k + 1, by omega, by go_num, HL8, HX8⟩
   case measure => simp [intOf]; omega
  ·
   obtain rfl : k = c := by omega
   have h9 := hl.out
   rw [tokP_all] at h9
   have HL9 := Lib.hid h9
   clear h9
   go_wp2_with fail
   go_ret2
   exact ⟨w4.heap.size, k, rfl, by simp [tokL], HB4.out.size, HL9.out, below_thenB HB4.out HB4.out.size hx.out⟩
end Go.Proofs.YtheijpjfpaghfaaGreatDoor
/- Contracts: Nonce, and Tokens where an argument is not valid. -/
namespace Go.Proofs.YtheijpjfpaghfaaGreatDoor
open Go Go.RowKit Gf Sha

end Go.Proofs.YtheijpjfpaghfaaGreatDoor
/- Contracts of ref11.ValidKeys and of ref44's ValidPiece, data, numbers. -/
namespace Go.Proofs.YtheijpjfpaghfaaGreatDoor
open Go Go.RowKit Gf Sha

set_option maxRecDepth 100000 in
set_option maxHeartbeats 1000000 in
theorem rpiece_any (s : List UInt8) (i : Int) (w : World) :
  Calls Tryz.prog 76 #[.agg #[.string (strB s), .int .i64 i]] w fun e w' => e = .returned (.bool (idB s i)) ∧ Below w.heap.size w w' := by
 by_cases h : s.length = 32
 ·
  have e0 : (((strB s).size : Int) == 32) = true := by rw [strB_size, beq_iff_eq]; omega
  by_cases h1 : 0 ≤ i
  ·
   have e1 : decide (0 ≤ i) = true := decide_eq_true h1
   have HE : Hid (idB s i = decide (i < 16)) := Lib.hid (by rw [idB, decide_eq_true h, decide_eq_true h1]; rfl)
   clear h h1
   go_enter Tryz.func76, Tryz.ntmps76
   go_wp2_with ((with_reducible show OpW 1); refine wpList_box _ rfl 39 (.tmp 0) rfl [.string (strB s), .int .i64 i] rfl ?_; intro w1 a1 a2 a3; have q0 := BL.get a1 (j := 0) rfl; have q1 := BL.get a1 (j := 1) rfl; have HB1 := Lib.hid a2; clear a1 a2 a3)
   go_ret
   exact ⟨ret_bool HE.out.symm, HB1.out⟩
  ·
   have e1 : decide (0 ≤ i) = false := decide_eq_false h1
   have HE : Hid (idB s i = false) := Lib.hid (by rw [idB, decide_eq_false h1]; simp)
   clear h h1
   go_enter Tryz.func76, Tryz.ntmps76
   go_wp2_with ((with_reducible show OpW 1); refine wpList_box _ rfl 39 (.tmp 0) rfl [.string (strB s), .int .i64 i] rfl ?_; intro w1 a1 a2 a3; have q0 := BL.get a1 (j := 0) rfl; have q1 := BL.get a1 (j := 1) rfl; have HB1 := Lib.hid a2; clear a1 a2 a3)
   go_ret
   exact ⟨ret_bool HE.out.symm, HB1.out⟩
 ·
  have e0 : (((strB s).size : Int) == 32) = false := by rw [strB_size, beq_eq_false_iff_ne]; omega
  have HE : Hid (idB s i = false) := Lib.hid (by rw [idB, decide_eq_false h]; rfl)
  clear h
  go_enter Tryz.func76, Tryz.ntmps76
  go_wp2_with ((with_reducible show OpW 1); refine wpList_box _ rfl 39 (.tmp 0) rfl [.string (strB s), .int .i64 i] rfl ?_; intro w1 a1 a2 a3; have q0 := BL.get a1 (j := 0) rfl; have q1 := BL.get a1 (j := 1) rfl; have HB1 := Lib.hid a2; clear a1 a2 a3)
  go_ret
  exact ⟨ret_bool HE.out.symm, HB1.out⟩

end Go.Proofs.YtheijpjfpaghfaaGreatDoor
/- The spots of a nonce: plain. -/
namespace Go.Proofs.YtheijpjfpaghfaaGreatDoor
open Go Go.RowKit Gf Sha

/-- The number that the tag of i stands for. -/
def tgN (nonce : List UInt8) (i : Nat) : Nat := beN ((tagL nonce ([115, 112, 111, 116] ++ uv i)).take 8)
/-- The spots that were selected first, j of them, the first number being st. -/
def spK (nonce : List UInt8) (st : Nat) : Nat → List Nat
 | 0 => []
 | j + 1 => let l := spK nonce st j
  let t := tgN nonce (st + j) % (st + j + 1)
  l ++ [if l.contains t then st + j else t]
theorem spK_length (nonce : List UInt8) (st j : Nat) : (spK nonce st j).length = j := by
 induction j with
 | zero => rfl
 | succ j ih => simp [spK, ih]
theorem spK_lt (nonce : List UInt8) (st j : Nat) : ∀ x ∈ spK nonce st j, x < st + j := by
 induction j with
 | zero => intro x hx; simp [spK] at hx
 | succ j ih =>
  intro x hx
  simp only [spK, List.mem_append, List.mem_singleton] at hx
  rcases hx with hx | rfl
  ·
   have := ih x hx; omega
  ·
   split
   ·
    omega
   ·
    have := Nat.mod_lt (tgN nonce (st + j)) (show 0 < st + j + 1 by omega); omega
theorem spK_nodup (nonce : List UInt8) (st j : Nat) : (spK nonce st j).Nodup := by
 induction j with
 | zero => simp [spK]
 | succ j ih =>
  simp only [spK]
  rw [List.nodup_append]
  refine ⟨ih, by simp, ?_⟩
  intro x hx y hy
  rw [List.mem_singleton] at hy
  subst hy
  split
  ·
   have := spK_lt nonce st j x hx; omega
  ·
   rename_i h
   intro e
   subst e
   exact h (by simpa using hx)
def intsN (l : List Nat) : List Int := l.map fun (n : Nat) => (n : Int)
/-- The spots, ascending. -/
def spotsL (nonce : List UInt8) (b c : Nat) : List Int := (intsN (spK nonce (b - c) c)).mergeSort fun x y => decide (x ≤ y)
def spotB (nl : Nat) (b c : Int) : Bool := decide (nl = 32) && (decide (1 ≤ b) && (decide (b ≤ 1048576) && (decide (0 ≤ c) && (decide (c ≤ 64) && decide (c ≤ b)))))

/-- The map's entries. -/
def spE (l : List Nat) : List (Value × Value) := l.map fun (n : Nat) => (.int .i64 (n : Int), .bool true)
theorem spE_found {l : List Nat} {t : Nat} {v : Value} {f : Bool} (h : Found (spE l) (.int .i64 (t : Int)) (.bool false) v f) : v = .bool (l.contains t) := by
 cases h with
 | yes i v h =>
  unfold spE at h
  rw [List.getElem?_map] at h
  cases hl : l[i]? with
  | none => rw [hl] at h; cases h
  | some n =>
   rw [hl] at h
   simp only [Option.map_some, Option.some.injEq, Prod.mk.injEq, Value.int.injEq, true_and] at h
   obtain ⟨h1, rfl⟩ := h
   have e : n = t := by omega
   subst e
   rw [show l.contains n = true by simpa using List.mem_of_getElem? hl]
 | no h =>
  rw [show l.contains t = false by
   rw [Bool.eq_false_iff]
   intro hc
   have hm : t ∈ l := by simpa using hc
   exact h (.int .i64 (t : Int), .bool true) (List.mem_map.2 ⟨t, hm, rfl⟩) rfl]
theorem spE_stored {l : List Nat} {t : Nat} {L' : List (Value × Value)} (h : Stored (spE l) (.int .i64 (t : Int)) (.bool true) L') (hn : t ∉ l) : L' = spE (l ++ [t]) := by
 cases h with
 | old i u h =>
  exfalso
  have hm := List.mem_of_getElem? h
  obtain ⟨n, hn2, e⟩ := List.mem_map.1 hm
  simp only [Prod.mk.injEq, Value.int.injEq, true_and] at e
  have e1 : n = t := by omega
  subst e1
  exact hn hn2
 | new h => simp [spE]
theorem keyInt (t : Nat) (h : t < 9223372036854775808) : ∃ lx, keyOf Tryz.prog 3 (.int .i64 (t : Int)) = some lx :=
 ⟨_, Go.Maps.keyOf_int_mk Tryz.underlying3 (by simp [Lit.wf, IntKind.min, IntKind.max, IntKind.signed, IntKind.bits]; omega)⟩
end Go.Proofs.YtheijpjfpaghfaaGreatDoor
/- slices.Sort of a row of ints that the call made. -/
namespace Go.Proofs.YtheijpjfpaghfaaGreatDoor
open Go.RowKit Gf Go.Sort
/-- The sorted list. -/
def isort (z : List Int) : List Int := z.mergeSort fun x y => decide (x ≤ y)
theorem isort_length (z : List Int) : (isort z).length = z.length := by simp [isort]

def SortRet (base : Nat) (v : Value) (n : Nat) (z : List Int) (w : World) (e : Ending) (w' : World) : Prop :=
 e = .returned (.tuple #[]) ∧ w'.ownsRow base 3 1 v n ((isort z).map (Value.int .i64)) ∧ w.grownBy w' v.ownBlock

theorem sort_own (base : Nat) (v : Value) (n : Nat) (z : List Int) (w : World) (h : w.ownsRow base 3 1 v n (z.map (Value.int .i64))) (hn : n < 4611686018427387904) :
  Calls Tryz.prog 59 #[v] w (SortRet base v n z w) := by
 have hl := h.1
 simp only [List.length_map, Nat.mul_one] at hl
 rcases h.2 with ⟨rfl, h0⟩ | ⟨g, cap, cur, rfl, hbase, hb, h1, h2, h3, h4⟩
 ·
  refine (Tryz.slices_Sort_int_none none 0 w).mono ?_
  rintro e w' ⟨rfl, rfl⟩
  have hz : z = [] := List.length_eq_zero_iff.1 (by omega)
  subst hz
  refine ⟨rfl, ?_, ?_⟩
  ·
   simpa [isort] using h
  ·
   exact ⟨rfl, rfl, rfl, Nat.le_refl _, fun _ _ _ => rfl⟩
 ·
  subst hl
  refine (Tryz.slices_Sort_int g 0 cap z w (holds_of_blockI hb (by simpa using h4)) (Array.getElem?_eq_some_iff.1 hb).1 hn).mono ?_
  rintro e w' ⟨rfl, nn, os, rfl⟩
  exact ⟨rfl, ownsRow_sortedI (isort_length z) hbase hb h1 h2 h3, grownBy_sortedI _⟩
end Go.Proofs.YtheijpjfpaghfaaGreatDoor
