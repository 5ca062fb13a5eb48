/- Several texts in one: Tkr, Tok. -/
import Derived.Test.YtgjgofjabdjclaaDoorA11
import Derived.Test.YtgjgofjabdjclaaDoorA10
import Derived.Test.YtgjgofjabdjclaaDoorA5
/- Rows of elements of many cells: tokens. Plain, but for the words on memory. -/
namespace Go.Proofs.YtgjgofjabdjclaaDoor
open Go Go.RowKit Gf

section
variable {α : Type} {f : α → List Value} {s : Nat}
theorem flat_length (hf : ∀ x, (f x).length = s) (l : List α) : (l.flatMap f).length = l.length * s := by
  induction l with
  | nil => simp
  | cons x l ih => rw [List.flatMap_cons, List.length_append, hf, ih, List.length_cons, Nat.succ_mul]; omega
theorem flat_split (l : List α) (k : Nat) (h : k < l.length) : l.flatMap f = (l.take k).flatMap f ++ f l[k] ++ (l.drop (k + 1)).flatMap f := by
  conv => lhs; rw [← List.take_append_drop k l, List.drop_eq_getElem_cons h]
  rw [List.flatMap_append, List.flatMap_cons, List.append_assoc]
theorem splice_mid (A X C vs : List Value) (o : Nat) (ho : o = A.length) (h : vs.length = X.length) : splice (A ++ X ++ C) o vs = A ++ vs ++ C := by
  subst ho
  unfold splice
  have e1 : (A ++ X ++ C).take A.length = A := by rw [List.append_assoc, List.take_left]
  have e2 : (A ++ X ++ C).drop (A.length + vs.length) = C := by rw [h, ← List.length_append, List.drop_left]
  rw [e1, e2]
theorem flat_splice (hf : ∀ x, (f x).length = s) (l : List α) (k : Nat) (h : k < l.length) (x : α) : splice (l.flatMap f) (k * s) (f x) = (l.set k x).flatMap f := by
  have h2 : (l.set k x).length = l.length := List.length_set
  rw [flat_split (f := f) l k h, flat_split (f := f) (l.set k x) k (by omega), List.getElem_set_self, List.take_set_of_le (Nat.le_refl _), List.drop_set_of_lt (by omega)]
  exact splice_mid _ _ _ _ _ (by rw [flat_length hf, List.length_take, Nat.min_eq_left (by omega)]) (by rw [hf, hf])
theorem BL.elem {w : World} {g : Nat} {t : TypeId} {l : List α} (hf : ∀ x, (f x).length = s) (h : BL w g t (l.flatMap f)) {k : Nat} (hk : k < l.length) : At w g (k * s) (f l[k]) := by
  rw [flat_split (f := f) l k hk] at h
  exact BL.at_ h (by rw [flat_length hf, List.length_take, Nat.min_eq_left (by omega)])
end

theorem madeCells_flat (z : List Value) (n : Nat) (hz : z ≠ []) : madeCells z.toArray (n * z.length) = ((List.replicate n ()).flatMap fun _ => z).toArray := by
  have hl : ((List.replicate n ()).flatMap fun _ => z).length = n * z.length := by rw [flat_length (s := z.length) (fun _ => rfl), List.length_replicate]
  have hz0 : 0 < z.length := List.length_pos_iff.2 hz
  apply Array.ext'
  rw [madeCells, Array.toList_map, Array.toList_range]
  apply List.ext_getElem?
  intro i
  by_cases hi : i < n * z.length
  · rw [List.getElem?_map, List.getElem?_range hi]
    have hk : i / z.length < n := Nat.div_lt_of_lt_mul (by rw [Nat.mul_comm]; exact hi)
    have hs := flat_split (f := fun _ : Unit => z) (List.replicate n ()) (i / z.length) (by rw [List.length_replicate]; exact hk)
    have h1 : (((List.replicate n ()).take (i / z.length)).flatMap fun _ => z).length = i / z.length * z.length := by rw [flat_length (s := z.length) (fun _ => rfl), List.length_take, List.length_replicate, Nat.min_eq_left (by omega)]
    have hdm := Nat.div_add_mod i z.length
    have hm := Nat.mod_lt i hz0
    rw [Nat.mul_comm] at hdm
    rw [List.toList_toArray, hs, List.append_assoc, List.getElem?_append_right (by omega), h1, List.getElem?_append_left (by omega), show i - i / z.length * z.length = i % z.length by omega]
    simp [hm]
  · rw [List.getElem?_eq_none (by simp; omega), List.getElem?_eq_none (by rw [List.toList_toArray, hl]; omega)]

/-- make([]T, k, n), T of many cells. -/
theorem wpList_mkv {P : Program} (w : World) {ops : Array Oper} {rest : List Oper} {o : Oper} {a : Act} {Q : Exit → Act → World → Prop} (hg : o.guard = none) (t te : TypeId) (x y : Operand) (hop : o.op = .makeSlice t x y) (z : List Value) (hz : z ≠ []) (bytes : Nat) (ht : P.underlying t = some (.slice te))
    (hinfo : (P.info? te).map (fun i => (i.zero, i.size, i.bytes)) = some (some (.agg z.toArray), z.length, bytes)) (k n : Nat) (zx zy : Int) (hx : a.eval x = .int .i64 zx) (hy : a.eval y = .int .i64 zy) (hzx : zx = (k : Int)) (hzy : zy = (n : Int)) (hk : k ≤ n) (hb : bytes * n ≤ 281474976710656) (hn : n ≤ 9223372036854775807)
    (h : ∀ w', BL w' w.heap.size te ((List.replicate n ()).flatMap fun _ => z) → Below w.heap.size w w' → w'.heap.size = w.heap.size + 1 → wpList P ops Q rest (a.put o.dst (.slice (some ⟨w.heap.size, 0, none⟩) k n)) w') : wpList P ops Q (o :: rest) a w :=
  wpList_plain hg fun K hK => by
    subst hzx hzy
    obtain ⟨i, hi, hzz, hs, hby⟩ := info_parts hinfo
    have hbb : (i.bytes : Int) * (n : Int) ≤ 281474976710656 := by rw [hby, ← Int.natCast_mul]; exact Int.ofNat_le.2 hb
    have hr := run_make (P := P) w t te i _ ht hi hzz .i64 .i64 (k : Int) (n : Int) (by omega) (by omega) hbb (by omega)
    rw [hs] at hr
    simp only [Int.toNat_natCast, Value.cells, madeCells_flat z n hz] at hr
    unfold Oper.wp execOp
    simp only [hop, hx, hy]
    simp [hr, Result.andThen]
    exact hK _ _ (h _ (BL.new w te _) ((Below.refl _ _).alloc (Nat.le_refl _) _) (by simp))

section
variable {P : Program} {w : World} {o : Oper} {a : Act} {Q : Exit → Act → World → Prop} {K : Act → World → Prop}
theorem wp_storev (t : TypeId) (x y : Operand) (hop : o.op = .store t x y) (n : Nat) (ht : Agg P t n = true) (g p : Nat) (te : TypeId) (l vs : List Value) (hx : a.eval x = .pointer (some ⟨g, p, none⟩)) (hy : a.eval y = .agg vs.toArray)
    (hb : BL w g te l) (hn : vs.length = n) (h1 : ∀ v ∈ vs, v.oneCell' = true) (ho : p + n ≤ l.length)
    (h : ∀ w', BL w' g te (splice l p vs) → Kp (· = g) w w' → w'.heap.size = w.heap.size → K (a.put o.dst undef) w') : o.wp P a w K Q := by
  obtain ⟨w', hr, h2, h3, h4⟩ := run_storeAt w ht hb hn h1 ho
  unfold Oper.wp execOp
  simp only [hop, hx, hy]
  simp [hr, Result.andThen]
  exact h w' h2 h3 h4
end
theorem Tk.cells_length (t : Tk) : t.cells.length = 4 := rfl
theorem Tk.one (t : Tk) : ∀ v ∈ t.cells, v.oneCell' = true := by
  intro v hv
  simp only [Tk.cells, List.mem_cons, List.not_mem_nil, or_false] at hv
  rcases hv with rfl | rfl | rfl | rfl <;> rfl
/-- A slice of tokens. -/
def TkS (w : World) (A : Option Addr) (n c : Nat) (l : List Tk) : Prop :=
  l.length = n ∧ n ≤ c ∧ n * 64 ≤ lim ∧ ∀ k, (h : k < l.length) → ∃ g o, A = some ⟨g, o, none⟩ ∧ At w g (o + k * 4) l[k].cells
theorem TkS.kept {w w' : World} {A : Option Addr} {n c : Nat} {l : List Tk} (h : TkS w A n c l) (hb : Below w.heap.size w w') : TkS w' A n c l :=
  ⟨h.1, h.2.1, h.2.2.1, fun k hk => let ⟨g, o, e, hc⟩ := h.2.2.2 k hk; ⟨g, o, e, hc.kept hb⟩⟩
theorem TkS.of_blk {w : World} {g : Nat} {t : TypeId} {l : List Tk} (h : BL w g t (l.flatMap Tk.cells)) {n : Nat} (hn : l.length = n) (hl : n * 64 ≤ lim) : TkS w (some ⟨g, 0, none⟩) n n l :=
  ⟨hn, Nat.le_refl _, hl, fun k hk => ⟨g, 0, rfl, by rw [Nat.zero_add]; exact BL.elem Tk.cells_length h hk⟩⟩
end Go.Proofs.YtgjgofjabdjclaaDoor
/- Contract of challenge.Tokens where its arguments are valid. -/
namespace Go.Proofs.YtgjgofjabdjclaaDoor
open Go Go.RowKit Gf Sha

/-- The token number n. -/
def tokN (K : Ky) (s : List UInt8) (i : Nat) (d : List UInt8) (n : Nat) : Tk := ⟨s, i, nonceL K s i n, tagL (nonceL K s i n) d⟩
def tokL (K : Ky) (s : List UInt8) (i : Nat) (d : List UInt8) (f c : Nat) : List Tk := (List.range c).map fun k => tokN K s i d (f + k)
def Tk.zero : Tk := ⟨[], 0, [], []⟩
/-- The first k are made. -/
def tokP (K : Ky) (s : List UInt8) (i : Nat) (d : List UInt8) (f c k : Nat) : List Tk := (List.range k).map (fun k => tokN K s i d (f + k)) ++ List.replicate (c - k) Tk.zero
theorem tokP_zero (K : Ky) (s : List UInt8) (i : Nat) (d : List UInt8) (f c : Nat) : tokP K s i d f c 0 = List.replicate c Tk.zero := by simp [tokP]
theorem tokP_all (K : Ky) (s : List UInt8) (i : Nat) (d : List UInt8) (f c : Nat) : tokP K s i d f c c = tokL K s i d f c := by simp [tokP, tokL]
theorem tokP_length (K : Ky) (s : List UInt8) (i : Nat) (d : List UInt8) (f c k : Nat) (h : k ≤ c) : (tokP K s i d f c k).length = c := by simp [tokP]; omega
theorem tokP_set (K : Ky) (s : List UInt8) (i : Nat) (d : List UInt8) (f c k : Nat) (h : k < c) : (tokP K s i d f c k).set k (tokN K s i d (f + k)) = tokP K s i d f c (k + 1) := by
  have e : c - k = (c - (k + 1)) + 1 := by omega
  unfold tokP
  rw [List.set_append, if_neg (by simp), List.length_map, List.length_range, Nat.sub_self, e, List.replicate_succ, List.set_cons_zero, List.range_succ, List.map_append, List.append_assoc]
  rfl
theorem zeroRow (c : Nat) : ((List.replicate c ()).flatMap fun _ => Tk.zero.cells) = (List.replicate c Tk.zero).flatMap Tk.cells := by
  induction c with
  | zero => rfl
  | succ c ih => rw [List.replicate_succ, List.replicate_succ, List.flatMap_cons, List.flatMap_cons, ih]
theorem infoTok : (Tryd.prog.info? 37).map (fun i => (i.zero, i.size, i.bytes)) = some (some (.agg Tk.zero.cells.toArray), Tk.zero.cells.length, 56) := by kernel_rfl
/-- What Tokens leaves. -/
def TokRet (l : List Tk) (w : World) (e : Ending) (w' : World) : Prop :=
  ∃ g n, e = .returned (.tuple #[.slice (some ⟨g, 0, none⟩) n n, .int .i64 0]) ∧ l.length = n ∧ w.heap.size ≤ g ∧ BL w' g 37 (l.flatMap Tk.cells) ∧ Below w.heap.size w w'

set_option maxRecDepth 100000 in
set_option maxHeartbeats 4000000 in
theorem tokens_yes (Kx : Ky) (s d : List UInt8) (i n cp f c : Nat) (A : Option Addr) (w : World) (hd : BS w A n cp d) (hT : Tabs w) (hK : okK Kx = true) (hI : idB s i = true) (hD : dataB n = true) (hR : rangeB f c = true) :
    Calls Tryd.prog 13 #[Kx.val, .agg #[.string (strB s), .int .i64 (i : Int)], .slice A n cp, .int .i64 (f : Int), .int .i64 (c : Int)] w (TokRet (tokL Kx s i d f c) w) := by
  have HD := Lib.hid hd
  have HT := Lib.hid hT
  have HK := Lib.hid hK
  have HI := Lib.hid hI
  have HDB := Lib.hid hD
  have HR := Lib.hid hR
  have hI2 : s.length = 32 ∧ i < 16 := by
    simp only [idB, Bool.and_eq_true, decide_eq_true_eq] at hI
    exact ⟨hI.1, by omega⟩
  have hR2 : (f : Int) ≤ 1099511627776 ∧ (c : Int) ≤ 256 ∧ (f : Int) + c ≤ 1099511627776 := by
    simp only [rangeB, Bool.and_eq_true, decide_eq_true_eq] at hR
    exact ⟨hR.2.1, hR.2.2.2.1, hR.2.2.2.2⟩
  have HS32 := Lib.hid hI2.1
  have HI16 := Lib.hid hI2.2
  obtain ⟨hf1, hc1, hfc⟩ := hR2
  clear hd hT hK hI hD hR hI2
  go_enter Tryd.func13, Tryd.ntmps13
  go_wp2_with (first
    | ((with_reducible show wpList _ _ _ (⟨some 5, _, _, _, _, _⟩ :: _) _ _); refine wpList_box _ rfl 29 (.tmp 0) rfl Kx.cells rfl ?_; intro w1 a1 a2 a3; have HG1 := Lib.hid a1; have HB1 := Lib.hid a2; have HZ1 := Lib.hid a3; clear a1 a2 a3)
    | ((with_reducible show wpList _ _ _ (⟨some 6, _, _, _, _, _⟩ :: _) _ _); refine wpList_box _ rfl 33 (.tmp 1) rfl [.string (strB s), .int .i64 (i : Int)] rfl ?_; intro w2 a1 a2 a3; have HP2 := Lib.hid a1; have HB2 := Lib.hid (below_then HB1.out (a2.mono (Nat.le_refl _))); have HG2 := Lib.hid (HG1.out.kept a2); clear a1 a2 a3)
    | ((with_reducible show wpList _ _ _ (⟨some 15, _, _, _, _, _⟩ :: _) _ _); refine wpList_loadv _ rfl 29 (.tmp 5) rfl 5 (by kernel_rfl) w.heap.size 0 Kx.cells rfl (BL.all HG2.out) rfl ?_)
    | (go_at_call 41; refine (areKeys_any Kx w2).mono ?_; rintro e w3 ⟨rfl, b1⟩; rw [HK.out]; have HB3 := Lib.hid (below_thenB HB2.out HB2.out.size b1); have HG3 := Lib.hid (HG2.out.kept b1); have HP3 := Lib.hid (HP2.out.kept b1); have q0 := HP3.out.get (j := 0) rfl; have q1 := HP3.out.get (j := 1) rfl; clear b1)
    | (go_at_call 42; refine (isID_any s (i : Int) w3).mono ?_; rintro e w4 ⟨rfl, b1⟩; rw [HI.out]; have HB4 := Lib.hid (below_thenB HB3.out HB3.out.size b1); have HG4 := Lib.hid (HG3.out.kept b1); have HP4 := Lib.hid (HP3.out.kept b1); clear b1 q0 q1)
    | (go_at_call 43; refine (isData_any A n cp w4).mono ?_; rintro e w' ⟨rfl, rfl⟩; rw [HDB.out])
    | (go_at_call 44; refine (isRange_any (f : Int) (c : Int) w4).mono ?_; rintro e w' ⟨rfl, rfl⟩; rw [HR.out])
    | ((with_reducible show wpList _ _ _ (⟨some 35, _, _, _, _, _⟩ :: _) _ _); refine wpList_mkv _ rfl 24 37 _ _ rfl Tk.zero.cells (by decide) 56 Tryd.underlying24 infoTok c c _ _ rfl rfl rfl rfl (Nat.le_refl _) (by omega) (by omega) ?_; intro w5 a1 a2 a3; rw [zeroRow, ← tokP_zero Kx s i d f c] at a1; have HL5 := Lib.hid a1; have HX5 := Lib.hid a2; have HZ5 := Lib.hid a3; clear a1 a2 a3))
  have HX5' : Hid (Below w4.heap.size w4 w5) := Lib.hid HX5.out
  have hcl : 0 ≤ (c : Int) := by omega
  go_loopw [38] (fun iv wr => ∃ k : Nat, k ≤ c ∧ iv = .int .i64 (k : Int) ∧ Hid (BL wr w4.heap.size 37 ((tokP Kx s i d f c k).flatMap Tk.cells)) ∧ Hid (Below w4.heap.size w4 wr)) (fun iv _ => c - (intOf iv).toNat)
  case atStart => exact ⟨0, by omega, rfl, HL5, HX5'⟩
  case round =>
    obtain ⟨k, hk, rfl, hl, hx⟩ := hrel
    obtain ⟨wx, hwx⟩ : ∃ x, x = wr := ⟨_, rfl⟩
    rw [← hwx] at hl hx ⊢
    clear hwx
    by_cases hlt : k < c
    · have HGx := Lib.hid (HG4.out.kept hx.out)
      have HPx := Lib.hid (HP4.out.kept hx.out)
      have HTx := Lib.hid ((HT.out.kept HB4.out).kept hx.out)
      have HDx := Lib.hid ((HD.out.kept HB4.out).kept hx.out)
      have hfk : (f : Int) + (k : Int) ≤ 1099511627776 := by omega
      obtain ⟨fk, hfk2⟩ : ∃ fk, fk = f + k := ⟨_, rfl⟩
      have HFK : Hid ((f : Int) + (k : Int) = ((fk : Nat) : Int)) := Lib.hid (by omega)
      have HFN : Hid (fk ≤ 1099511627776) := Lib.hid (by omega)
      have HFE := Lib.hid hfk2
      clear hfk2
      go_wp2_with (first
        | ((with_reducible show wpList _ _ _ (⟨some 41, _, _, _, _, _⟩ :: _) _ _); refine wpList_loadv _ rfl 29 (.tmp 5) rfl 5 (by kernel_rfl) w.heap.size 0 Kx.cells rfl (BL.all HGx.out) rfl ?_)
        | ((with_reducible show wpList _ _ _ (⟨some 42, _, _, _, _, _⟩ :: _) _ _); refine wpList_loadv _ rfl 33 (.tmp 6) rfl 2 (by kernel_rfl) w1.heap.size 0 [.string (strB s), .int .i64 (i : Int)] rfl (BL.all HPx.out) rfl ?_)
        | (go_at_call 45; rw [HFK.out]; refine (nonce_any Kx s i fk wx HTx.out HK.out HS32.out HI16.out HFN.out).mono ?_; rintro e w6 ⟨rfl, b1⟩; have HX6 := Lib.hid b1; clear b1))
      have HX6' := Lib.hid (below_then hx.out (HX6.out.mono (Nat.le_refl _)))
      have HXw : Hid (Below w4.heap.size w4 w6) := Lib.hid (hx.out.trans (HX6.out.mono (by have := hx.out.size; omega)))
      have HQ : Hid (∀ w', Below w4.heap.size w4 w' → w'.cell? ⟨w1.heap.size, 0, none⟩ = some (.string (strB s)) ∧ w'.cell? ⟨w1.heap.size, 1, none⟩ = some (.int .i64 (i : Int))) := Lib.hid (fun w' hb => ⟨(HP4.out.kept hb).get (j := 0) rfl, (HP4.out.kept hb).get (j := 1) rfl⟩)
      have HL6 := Lib.hid (hl.out.kept HX6.out)
      have HTL : Hid (((tokP Kx s i d f c k).flatMap Tk.cells).length = c * 4) := Lib.hid (by rw [flat_length Tk.cells_length, tokP_length _ _ _ _ _ _ _ (by omega)])
      have HST : Hid (splice ((tokP Kx s i d f c k).flatMap Tk.cells) (k * 4) (tokN Kx s i d fk).cells = (tokP Kx s i d f c (k + 1)).flatMap Tk.cells) := Lib.hid (by
        rw [flat_splice Tk.cells_length _ k (by rw [tokP_length _ _ _ _ _ _ _ (by omega)]; exact hlt), HFE.out, tokP_set _ _ _ _ _ _ _ hlt])
      refine Text.wp_region_text (fun w' => w'.cell? ⟨w1.heap.size, 0, none⟩ = some (.string (strB s)) ∧ w'.cell? ⟨w1.heap.size, 1, none⟩ = some (.int .i64 (i : Int))) [(0, 4), (1, 4), (3, 4), (4, 4), (5, 4), (2, 0), (6, 2), (7, 4), (8, 4), (9, 2)] (by kernel_rfl) (by kernel_rfl) (fun _ _ _ _ _ h => h) (HQ.out _ HXw.out.drew) ?_
      iterate 5 (refine Text.purek rfl rfl (fun K hK => ⟨_, fun w' => by go_simp <;> rfl, ?_⟩); go_simp; refine hK _ ?_; clear hK K)
      (refine Text.heldk rfl rfl (fun K hK => ⟨_, fun w' hw' => by go_simp <;> rfl, ?_⟩); go_simp; refine hK _ ?_; clear hK K)
      refine Text.eff rfl rfl (fun K hK => ?_)
      go_simp
      refine (tag_any A n cp (nonceL Kx s i fk) d w6.drew ((HDx.out.kept HX6.out).drew) ((HTx.out.kept HX6.out).drew) (by rw [nonceL_length]; decide)).mono ?_
      rintro e w7 ⟨rfl, b7⟩
      have HX7 : Hid (Below w4.heap.size w4 w7) := Lib.hid (HXw.out.drew.trans (b7.mono (by have := HXw.out.size; exact this)))
      have HL7 := Lib.hid ((HL6.out.drew).kept b7)
      refine hK _ _ (HQ.out _ HX7.out) ?_
      clear hK K b7
      iterate 2 (refine Text.purek rfl rfl (fun K hK => ⟨_, fun w' => by go_simp <;> rfl, ?_⟩); go_simp; refine hK _ ?_; clear hK K)
      refine Text.eff rfl rfl (fun K hK => ?_)
      refine wp_storev 37 (.tmp 55) (.tmp 54) rfl 4 (by kernel_rfl) w4.heap.size (k * 4) _ _ (tokN Kx s i d fk).cells rfl rfl HL7.out rfl (Tk.one _) (by rw [HTL.out]; omega) ?_
      intro w8 a1 a2 a3
      rw [HST.out] at a1
      have HL8 := Lib.hid a1
      have HX8 : Hid (Below w4.heap.size w4 w8) := Lib.hid (((Kp.of_below (S := fun _ => False) HX7.out).after a2 (fun i hi e => by omega)).below (Nat.le_refl _) (fun _ h => h.elim))
      refine hK _ _ (HQ.out _ HX8.out) ?_
      clear hK K a1 a2 a3
      refine Text.done ?_
      go_wp2_with fail
      go_roundw
      case rel => exact ⟨k + 1, by omega, by go_num, HL8, HX8⟩
      case measure => simp [intOf]; omega
    · obtain rfl : k = c := by omega
      have h9 := hl.out
      rw [tokP_all] at h9
      have HL9 := Lib.hid h9
      clear h9
      go_wp2_with fail
      go_ret2
      exact ⟨w4.heap.size, k, rfl, by simp [tokL], HB4.out.size, HL9.out, below_thenB HB4.out HB4.out.size hx.out⟩
end Go.Proofs.YtgjgofjabdjclaaDoor
