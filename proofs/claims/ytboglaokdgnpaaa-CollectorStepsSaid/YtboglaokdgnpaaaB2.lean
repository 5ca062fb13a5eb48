/- Several texts in one: Vo, Slc, Wg. -/
import Derived.Test.YtboglaokdgnpaaaA22
import Derived.Test.YtboglaokdgnpaaaA1
import Derived.Test.YtboglaokdgnpaaaA26
import Derived.Test.YtboglaokdgnpaaaA7
/- Ascending lists of strings: an insertion, plainly. -/
namespace Go.Proofs.Ytboglaokdgnpaaa
open Go Gf

theorem str_ltr {a b c : List UInt8} (h1 : a < b) (h2 : b < c) : a < c := List.lt_trans h1 h2
theorem str_lir (a : List UInt8) : ¬ a < a := List.lt_irrefl a
theorem str_nlt {a b : List UInt8} : ¬ a < b ↔ b ≤ a := List.not_lt
theorem str_lle {a b : List UInt8} (h : a ≤ b) (hn : a ≠ b) : a < b := by
 rcases List.le_iff_lt_or_eq.1 h with h | h
 ·
  exact h
 ·
  exact absurd h hn
theorem asc_ext : ∀ {l1 l2 : List (List UInt8)}, l1.Pairwise (· < ·) → l2.Pairwise (· < ·) → (∀ y, y ∈ l1 ↔ y ∈ l2) → l1 = l2
 | [], [], _, _, _ => rfl
 | [], b :: l2, _, _, h => absurd ((h b).2 (by simp)) (by simp)
 | a :: l1, [], _, _, h => absurd ((h a).1 (by simp)) (by simp)
 | a :: l1, b :: l2, h1, h2, h => by
  rw [List.pairwise_cons] at h1 h2
  have hab : a = b := by
   have m1 := (h a).1 (by simp)
   have m2 := (h b).2 (by simp)
   rw [List.mem_cons] at m1 m2
   rcases m1 with e | m1
   ·
    exact e
   rcases m2 with e | m2
   ·
    exact e.symm
   exact absurd (str_ltr (h1.1 b m2) (h2.1 a m1)) (str_lir a)
  subst hab
  rw [asc_ext h1.2 h2.2 (fun y => by
   have := h y
   rw [List.mem_cons, List.mem_cons] at this
   constructor
   ·
    intro hy
    rcases this.1 (.inr hy) with e | e
    ·
     exact absurd (h1.1 y hy) (by rw [e]; exact str_lir a)
    ·
     exact e
   ·
    intro hy
    rcases this.2 (.inr hy) with e | e
    ·
     exact absurd (h2.1 y hy) (by rw [e]; exact str_lir a)
    ·
     exact e)]
def addS (l : List (List UInt8)) (s : List UInt8) : List (List UInt8) := if (l.dropWhile fun y => decide (y < s)).head? = some s then l else (l.takeWhile fun y => decide (y < s)) ++ s :: (l.dropWhile fun y => decide (y < s))
theorem addS_asc {l : List (List UInt8)} (h : l.Pairwise (· < ·)) (s : List UInt8) : (addS l s).Pairwise (· < ·) ∧ ∀ y, y ∈ addS l s ↔ y ∈ l ∨ y = s := by
 unfold addS
 by_cases hh : (l.dropWhile fun y => decide (y < s)).head? = some s
 ·
  rw [if_pos hh]
  refine ⟨h, fun y => ⟨.inl, fun h' => h'.elim id (fun e => ?_)⟩⟩
  subst e
  have : y ∈ l.dropWhile fun z => decide (z < y) := List.mem_of_head? hh
  exact (List.dropWhile_sublist _).subset this
 ·
  rw [if_neg hh]
  have e := List.takeWhile_append_dropWhile (p := fun y => decide (y < s)) (l := l)
  have h1 : ∀ y ∈ l.takeWhile fun y => decide (y < s), y < s := fun y hy => by
   have := List.all_eq_true.1 (List.all_takeWhile (p := fun y => decide (y < s)) (l := l)) y hy
   simpa using this
  have h2 : ∀ y ∈ l.dropWhile fun y => decide (y < s), s < y := by
   cases hd : l.dropWhile fun y => decide (y < s) with
   | nil => intro y hy; simp at hy
   | cons a r =>
    have h3 : ¬ a < s := by
     have := List.head?_dropWhile_not (fun y => decide (y < s)) l
     rw [hd] at this
     simpa using this
    have h4 : s < a :=  str_lle (str_nlt.1 h3) (fun e => hh (by rw [hd, e]; rfl))
    have h5 : (a :: r).Pairwise (· < ·) := by rw [← hd]; exact h.sublist (List.dropWhile_sublist _)
    intro y hy
    rw [List.mem_cons] at hy
    rcases hy with rfl | hy
    ·
     exact h4
    ·
     exact str_ltr h4 ((List.pairwise_cons.1 h5).1 y hy)
  constructor
  ·
   rw [List.pairwise_append]
   refine ⟨h.sublist (List.takeWhile_sublist _), List.pairwise_cons.2 ⟨h2, h.sublist (List.dropWhile_sublist _)⟩, fun a ha b hb => ?_⟩
   rw [List.mem_cons] at hb
   rcases hb with rfl | hb
   ·
    exact h1 a ha
   ·
    exact str_ltr (h1 a ha) (h2 b hb)
  ·
   intro y
   rw [List.mem_append, List.mem_cons]
   constructor
   ·
    rintro (h9 | h9 | h9)
    ·
     exact .inl ((List.takeWhile_sublist _).subset h9)
    ·
     exact .inr h9
    ·
     exact .inl ((List.dropWhile_sublist _).subset h9)
   ·
    rintro (h9 | h9)
    ·
     rw [← e, List.mem_append] at h9
     rcases h9 with h9 | h9
     ·
      exact .inl h9
     ·
      exact .inr (.inr h9)
    ·
     exact .inr (.inl h9)
theorem addS_len (l : List (List UInt8)) (s : List UInt8) : (addS l s).length ≤ l.length + 1 := by
 unfold addS
 split
 ·
  omega
 ·
  have e := congrArg List.length (List.takeWhile_append_dropWhile (p := fun y => decide (y < s)) (l := l))
  rw [List.length_append] at e
  rw [List.length_append, List.length_cons]
  omega
/-- Where the loop stops. -/
theorem take_stop {l : List (List UInt8)} {s : List UInt8} : ∀ {k : Nat}, (l.take k).all (fun y => decide (y < s)) = true → (∀ y, l[k]? = some y → decide (y < s) = false) → l.takeWhile (fun y => decide (y < s)) = l.take k ∧ l.dropWhile (fun y => decide (y < s)) = l.drop k := by
 induction l with
 | nil => intro k _ _; simp
 | cons a l ih =>
  intro k h1 h2
  cases k with
  | zero =>
   have := h2 a rfl
   simp [this]
  | succ k =>
   rw [List.take_succ_cons, List.all_cons, Bool.and_eq_true] at h1
   obtain ⟨e1, e2⟩ := ih h1.2 (fun y hy => h2 y (by simpa using hy))
   rw [List.takeWhile_cons_of_pos (p := fun y => decide (y < s)) h1.1, List.dropWhile_cons_of_pos (p := fun y => decide (y < s)) h1.1, e1, e2]
   exact ⟨rfl, rfl⟩
theorem addS_at {l : List (List UInt8)} {s : List UInt8} {k : Nat} (h1 : (l.take k).all (fun y => decide (y < s)) = true) (h2 : ∀ y, l[k]? = some y → decide (y < s) = false) : addS l s = if l[k]? = some s then l else l.take k ++ s :: l.drop k := by
 obtain ⟨e1, e2⟩ := take_stop h1 h2
 unfold addS
 rw [e1, e2, List.head?_drop]
end Go.Proofs.Ytboglaokdgnpaaa
/- x[k:], x[:k] of byte slices and of arrays of bytes, as laws at the operation. Proved for any program. -/
namespace Go.Proofs.Ytboglaokdgnpaaa
open Go Go.RowKit Gf

/-- The address of x[k:]. -/
def cutA (A : Option Addr) (c k : Nat) : Option Addr := if c = k then A else A.map (·.add k)
/-- The bytes lie in no block of S. -/
def FarB (A : Option Addr) (n : Nat) (S : Nat → Prop) : Prop := ∀ g o, 0 < n → A = some ⟨g, o, none⟩ → ¬ S g
theorem FarB.cut {w : World} {A : Option Addr} {n c : Nat} {l : List UInt8} {S : Nat → Prop} (h : BS w A n c l) (hf : FarB A n S) {k : Nat} (hk : k ≤ n) : FarB (cutA A c k) (n - k) S := by
 intro g o hn e
 have h2 := h.2.1
 obtain ⟨g0, o0, rfl, _⟩ := h.2.2.2 0 (by omega)
 unfold cutA at e
 rw [if_neg (by omega), Option.map_some, addr_add] at e
 cases e
 exact hf _ _ (by omega) rfl
theorem FarB.pre {A : Option Addr} {n : Nat} {S : Nat → Prop} (hf : FarB A n S) {k : Nat} (hk : k ≤ n) : FarB A k S := fun g o hn e => hf g o (by omega) e
theorem BS.cut {w : World} {A : Option Addr} {n c : Nat} {l : List UInt8} (h : BS w A n c l) {k : Nat} (hk : k ≤ n) : BS w (cutA A c k) (n - k) (c - k) (l.drop k) := by
 obtain ⟨h1, h2, h3, h4⟩ := h
 refine ⟨by simp [h1], by omega, by omega, fun j hj => ?_⟩
 obtain ⟨g, o, rfl, hc⟩ := h4 (k + j) (by omega)
 refine ⟨g, o + k, ?_, ?_⟩
 ·
  unfold cutA
  rw [if_neg (by omega), Option.map_some, addr_add]
 ·
  rw [Nat.add_assoc, hc]
  show some (B (gB l (k + j))) = some (B (gB (l.drop k) j))
  rw [gB, gB, List.getD_eq_getElem?_getD, List.getD_eq_getElem?_getD, List.getElem?_drop]
theorem BS.pre {w : World} {A : Option Addr} {n c : Nat} {l : List UInt8} (h : BS w A n c l) {k : Nat} (hk : k ≤ n) : BS w A k c (l.take k) := by
 obtain ⟨h1, h2, h3, h4⟩ := h
 refine ⟨by simp [h1]; omega, by omega, by omega, fun j hj => ?_⟩
 obtain ⟨g, o, rfl, hc⟩ := h4 j (by omega)
 refine ⟨g, o, rfl, ?_⟩
 rw [hc]
 show some (B (gB l j)) = some (B (gB (l.take k) j))
 rw [gB, gB, List.getD_eq_getElem?_getD, List.getD_eq_getElem?_getD, List.getElem?_take_of_lt hj]

section
variable {P : Program} (w : World) {ops : Array Oper} {rest : List Oper} {o : Oper} {a : Act} {Q : Exit → Act → World → Prop}

theorem one_size {te : TypeId} (hsz : (match P.info? te with | some i => i.size == 1 | none => false) = true) : (sizeOf te).run P w = .ok 1 w := by
 cases hi : P.info? te with
 | none => simp [hi] at hsz
 | some i => simp [hi] at hsz; simp [sizeOf, typeInfo, hi, hsz]

end
end Go.Proofs.Ytboglaokdgnpaaa
/- The reference's Add. -/
namespace Go.Proofs.Ytboglaokdgnpaaa
open Go Go.RowKit Gf Sha

section
variable {P : Program} {w : World} {o : Oper} {a : Act}
theorem exec_cutS (s lo : Operand) (ty te : TypeId) (hop : o.op = .slice ty s (some lo) none none) (hu : P.underlying ty = some (.slice te)) (hsz : (match P.info? te with | some i => i.size == 1 | none => false) = true)
  (A : Option Addr) (n c k : Nat) (hs : a.eval s = .slice A n c) (hlo : a.eval lo = .int .i64 (k : Int)) (hk : k ≤ n) : (execOp a.eval o).run P w = .ok (.value (.slice (cutA A c k) (n - k) (c - k))) w := by
 have h2 := one_size (P := P) w hsz
 unfold execOp
 simp only [hop, Option.map_some, Option.map_none, hs, hlo]
 simp [Instr.sliceAt, Instr.slice, run_underlying hu, Instr.sliceBounds, Instr.sliceBound, asIntOf, hk, h2, Result.andThen]
 rfl
theorem exec_preS (s hi : Operand) (ty te : TypeId) (hop : o.op = .slice ty s none (some hi) none) (hu : P.underlying ty = some (.slice te)) (hsz : (match P.info? te with | some i => i.size == 1 | none => false) = true)
  (A : Option Addr) (n c k : Nat) (hs : a.eval s = .slice A n c) (hlo : a.eval hi = .int .i64 (k : Int)) (hk : k ≤ n) (hc : n ≤ c) : (execOp a.eval o).run P w = .ok (.value (.slice A k c)) w := by
 have h2 := one_size (P := P) w hsz
 unfold execOp
 simp only [hop, Option.map_some, Option.map_none, hs, hlo]
 have h3 : k ≤ c := by omega
 simp [Instr.sliceAt, Instr.slice, run_underlying hu, Instr.sliceBounds, Instr.sliceBound, asIntOf, h3, h2, Result.andThen]
 intro _
 cases A <;> simp [Addr.add]
end
theorem LS.cutS {α : Type} {R : Rdg α} {b n c : Nat} {w : World} {A : Option Addr} {L : List α} (h : LS R 1 b w A n c L) {k : Nat} (hk : k ≤ n) : LS R 1 b w (cutA A c k) (n - k) (c - k) (L.drop k) := by
 refine ⟨by rw [List.length_drop, h.1], by have := h.2.1; omega, Nat.le_trans (Nat.mul_le_mul_right _ (Nat.sub_le _ _)) h.2.2.1, fun j hj => ?_⟩
 rw [List.length_drop] at hj
 obtain ⟨g', o', cs, e, h1, h2⟩ := h.2.2.2 (k + j) (by omega)
 have hc := h.2.1
 have hl := h.1
 refine ⟨g', o' + k, cs, ?_, ?_, ?_⟩
 ·
  unfold cutA
  rw [if_neg (by omega), e, Option.map_some, addr_add]
 ·
  rw [Nat.add_assoc, show k + j * 1 = (k + j) * 1 by omega]; exact h1
 ·
  rw [List.getElem_drop]; exact h2
/-- A list of strings, in the slice that was given or in new memory. -/
def StrV (A : Option Addr) (l : List (List UInt8)) (w : World) (e : Ending) (w' : World) : Prop := ∃ A' c, e = .returned (.slice A' l.length c) ∧ LS rStr 1 16 w' A' l.length c l ∧ (∀ a, A' = some a → A = some a ∨ w.heap.size ≤ a.block) ∧ Below w.heap.size w w'
theorem fin_add {A : Option Addr} {L : List (List UInt8)} {s : List UInt8} {k : Nat} {w wx w9 : World} {v : Value} (hr : addS L s = L.take k ++ s :: L.drop k) (ho : OL rStr 1 9 wx w9 v (L.take k ++ [s] ++ L.drop k)) (hx : Below wx.heap.size wx w9) (hb : Below w.heap.size w wx) (hl : L.length ≤ 100000) : StrV A (addS L s) w (.returned v) w9 := by
 have e : L.take k ++ [s] ++ L.drop k = addS L s := by rw [hr, List.append_assoc]; rfl
 rw [e] at ho
 have h8 := addS_len L s
 obtain ⟨A', c', rfl, h9⟩ := ho.ls (b := 16) stay_str hx (by unfold lim; omega)
 refine ⟨A', c', rfl, h9, fun a ha => .inr ?_, below_thenB hb hb.size hx⟩
 subst ha
 have := ho.own a.block rfl
 have := hb.size
 omega
set_option maxRecDepth 100000 in
set_option maxHeartbeats 2000000 in
theorem radd_any (A : Option Addr) (n c : Nat) (L : List (List UInt8)) (s : List UInt8) (w : World) (h : LS rStr 1 16 w A n c L) (hs : s.length ≤ reachBytes) (hn1 : n ≤ 100000) :
  Calls Try.prog 83 #[.slice A n c, .string (strB s)] w (StrV A (addS L s) w) := by
 have hn := h.len_le
 have H := Lib.hid h
 have HL := Lib.hid h.1
 have HS := Lib.hid hs
 have HN1 := Lib.hid hn1
 clear h hs hn1
 go_enter Try.func83, Try.ntmps83
 go_wp2_with fail
 go_loopw [5] (fun iv wr => ∃ k : Nat, k ≤ n ∧ iv = .int .i64 (k : Int) ∧ Hid ((L.take k).all (fun y => decide (y < s)) = true) ∧ Hid (Below w.heap.size w wr)) (fun iv _ => n - (intOf iv).toNat)
 case atStart => exact ⟨0, by omega, rfl, Lib.hid rfl, Lib.hid (Below.refl _ _)⟩
 case round =>
  obtain ⟨k, hk, rfl, hall, hb⟩ := hrel
  obtain ⟨wx, hwx⟩ : ∃ x, x = wr := ⟨_, rfl⟩
  rw [← hwx] at hb ⊢
  clear hwx
  have hkn : k ≤ 100000 := by have := HN1.out; omega
  by_cases hlt : k < n
  ·
   obtain ⟨y, g, o, hy, e0, p1⟩ := H.out.str_at hb.out hlt
   have HX := Lib.hid hy
   clear hy
   cases hc : Op.bytesLess y s with
   | true =>
    have el : Op.bytesLess (strB y).toList (strB s).toList = true := by rw [strB_list, strB_list]; exact hc
    have HF : Hid ((L.take (k + 1)).all (fun y => decide (y < s)) = true) := Lib.hid (all_step HX.out hall.out (by rw [← bytesLess_eq]; exact hc))
    subst e0
    go_wp2_with fail
    go_roundw
    case rel => exact ⟨k + 1, by omega, by go_num, HF, hb⟩
    case measure => simp [intOf]; omega
   | false =>
    have el : Op.bytesLess (strB y).toList (strB s).toList = false := by rw [strB_list, strB_list]; exact hc
    have HAT : Hid (addS L s = if L[k]? = some s then L else L.take k ++ s :: L.drop k) := Lib.hid (addS_at hall.out (fun z hz => by
     have : z = y := by have := hz.symm.trans HX.out; cases this; rfl
     rw [this, ← bytesLess_eq]; exact hc))
    by_cases he : y = s
    ·
     have es : ((strB y).toList == (strB s).toList) = true := by rw [strB_eq]; exact decide_eq_true he
     have HR : Hid (addS L s = L) := Lib.hid (by rw [HAT.out, HX.out, he, if_pos rfl])
     have e0' := e0
     subst e0
     clear he
     go_wp2_with fail
     go_ret
     rw [HR.out]
     exact ⟨_, c, by rw [HL.out]; rfl, by rw [HL.out]; exact H.out.kept stay_str hb.out, fun a ha => .inl ha, hb.out⟩
    ·
     have es : ((strB y).toList == (strB s).toList) = false := by rw [strB_eq]; exact decide_eq_false he
     have HR : Hid (addS L s = L.take k ++ s :: L.drop k) := Lib.hid (by rw [HAT.out, HX.out, if_neg (fun e => he (Option.some.inj e))])
     clear he
     subst e0
     go_wp2_with fail
     have LHX := Lib.hid (H.out.kept stay_str hb.out)
     obtain ⟨dss, k1', k2', k3', hsrc1⟩ := (LHX.out.pre hk).src (P := Try.prog) len_str ones_str Try.underlying23
     have HA1 := Lib.hid k1'
     have HA2 := Lib.hid k2'
     have HA3 := Lib.hid k3'
     have HA4 := Lib.hid hsrc1
     obtain ⟨ess, c1', c2', c3', hsrc2⟩ := (LHX.out.cutS hk).src (P := Try.prog) len_str ones_str Try.underlying23
     have HC1 := Lib.hid c1'
     have HC2 := Lib.hid c2'
     have HC3 := Lib.hid c3'
     have HC4 := Lib.hid hsrc2
     have HTL : Hid ((L.take k).length = k) := Lib.hid (LHX.out.pre hk).1
     have HDL : Hid ((L.drop k).length = n - k) := Lib.hid (by rw [List.length_drop, HL.out])
     have HNC : Hid (n ≤ c) := Lib.hid H.out.2.1
     have hn1 := HN1.out
     clear k1' k2' k3' hsrc1 c1' c2' c3' hsrc2
     have HX0 : Hid (Below wx.heap.size wx wx.drew) := Lib.hid (Below.refl _ _).drew
     refine Text.wp_region_bt (fun w' => Below wx.heap.size wx w') (.still 1 4 (.still 2 4 (.still 3 4 (.still 5 4 (.still 8 4 (.still 9 4 (.still 10 4 (.br 0 (.br 4 (.eff 6 (.eff 7 (.eff 11 (.still 12 4 .leaf)))) 6 (.eff 4 (.eff 7 (.eff 11 (.still 12 4 .leaf))))) 6 (.eff 0 (.eff 4 (.eff 7 (.eff 11 (.still 12 4 .leaf))))))))))))) (by kernel_rfl) (by kernel_rfl) (fun _ _ _ _ _ h => h) ((Below.refl _ _).drew) ?_
     iterate 2 (refine Text.bpurek rfl rfl (fun K hK => ⟨_, fun w' => by go_simp <;> rfl, ?_⟩); go_simp; refine hK _ ?_; clear hK K)
     refine Text.bpurek rfl rfl (fun K hK => ⟨_, fun w' => exec_preS (.tmp 34) (.tmp 35) 23 9 rfl Try.underlying23 (by kernel_rfl) _ n c k rfl (by go_simp) hk HNC.out, ?_⟩)
     go_simp
     refine hK _ ?_
     clear hK K
     iterate 3 (refine Text.bpurek rfl rfl (fun K hK => ⟨_, fun w' => by go_simp <;> rfl, ?_⟩); go_simp; refine hK _ ?_; clear hK K)
     refine Text.bpurek rfl rfl (fun K hK => ⟨_, fun w' => exec_cutS (.tmp 41) (.tmp 42) 23 9 rfl Try.underlying23 (by kernel_rfl) _ n c k rfl (by go_simp) hk, ?_⟩)
     go_simp
     refine hK _ ?_
     clear hK K
     refine Text.bfork ?_ ?_
     ·
      refine Text.beff rfl rfl (fun K hK => ?_)
      refine wp_bslice 23 9 0 _ rfl #[] (by rw [List.map_toArray]; rfl) [] (bsl0_str _) ?_
      intro wa a1 a2 a3
      have HBwa := Lib.hid a2
      have HXwa : Hid (Below wx.heap.size wx wa) := Lib.hid (below_thenB (HX0).out (by have := (HX0).out.size; exact this) a2)
      have HZwa : Hid (wx.heap.size ≤ wx.heap.size) := Lib.hid (by have := (HX0).out.size; exact this)
      have HGwa := Lib.hid a1
      refine hK _ _ HXwa.out ?_
      clear hK K a1 a2 a3
      refine Text.bfork ?_ ?_
      ·
       refine Text.beff rfl rfl (fun K hK => ?_)
       obtain ⟨iS, i1, i2, i3, i4⟩ := info_some infoStr
       refine wp_appX _ (.tmp 33) (.tmp 36) 23 9 1 iS _ rfl Try.underlying23 i1 i2 i3 rfl _ 0 [] rfl (RW.of_blk (n := 0) (HGwa).out (by simp) (by decide)) _ k _ rfl (HA4.out _ (HXwa).out) (by rw [i4]; omega) (by omega) ?_
       intro v4 wb ap
       have HAP4 := Lib.hid ap
       have HXwb : Hid (Below wx.heap.size wx wb) := Lib.hid (((Kp.of_below (S := fun _ => False) (HXwa).out).after ap.kp (fun i hi e => by have e' : wx.heap.size = i := Option.some.inj e; have := (HZwa).out; omega)).below (Nat.le_refl _) (fun _ h => h.elim))
       refine hK _ _ HXwb.out ?_
       clear hK K ap i1 i2 i3 i4
       have HO4 : Hid (OL rStr 1 9 wx wb v4 (L.take k)) := Lib.hid (by
        have ho : OL rStr 1 9 wx wb v4 ([] ++ L.take k) := OL.app (css := []) rfl (fun _ h => by cases h) (fun _ h => absurd h (by simp)) (fun b hb => by cases hb; exact (HZwa).out) rfl HA1.out HA2.out HA3.out HTL.out (HXwa).out.size HAP4.out
        exact ho)
       refine Text.beff rfl rfl (fun K hK => ?_)
       refine wp_bslice 23 9 1 _ rfl #[(0, .string (strB s))] (by rw [List.map_toArray]; rfl) [.string (strB s)] (bslStr _ _) ?_
       intro wc a1 a2 a3
       have HBwc := Lib.hid a2
       have HXwc : Hid (Below wx.heap.size wx wc) := Lib.hid (below_thenB (HXwb).out (by have := (HXwb).out.size; exact this) a2)
       have HGwc := Lib.hid a1
       refine hK _ _ HXwc.out ?_
       clear hK K a1 a2 a3
       have HO5 := Lib.hid (HO4.out.kept HBwc.out)
       obtain ⟨cs4, g1, g2, g3, g4, g5⟩ := (HO5).out
       have HK1 := Lib.hid g1
       have HK2 := Lib.hid g2
       have HK3 := Lib.hid g3
       rw [HTL.out] at g4
       have HK4 := Lib.hid g4
       have HK5 := Lib.hid g5
       clear g1 g2 g3 g4 g5
       refine Text.beff rfl rfl (fun K hK => ?_)
       obtain ⟨iS, i1, i2, i3, i4⟩ := info_some infoStr
       refine wp_appRW _ (.tmp 37) (.tmp 39) 23 9 1 iS _ rfl Try.underlying23 i1 i2 i3 rfl v4 k _ rfl HK4.out wb.heap.size [.string (strB s)] rfl (HGwc).out rfl (one_val _ rfl) (by rw [i4]; omega) (by omega) ?_
       intro v7 w7 ap
       have HR7 := Lib.hid ap
       have HX7 : Hid (Below wx.heap.size wx w7) := Lib.hid (((Kp.of_below (S := fun _ => False) (HXwc).out).after ap.kp (fun i hi e => by have := HK5.out i e; omega)).below (Nat.le_refl _) (fun _ h => h.elim))
       refine hK _ _ HX7.out ?_
       clear hK K ap i1 i2 i3 i4
       have HO7 : Hid (OL rStr 1 9 wx w7 v7 (L.take k ++ [s])) := Lib.hid (OL.push HK1.out HK2.out HK3.out HK5.out HTL.out rfl ⟨rfl, HS.out⟩ (HXwc).out.size HR7.out)
       obtain ⟨cs7, g1, g2, g3, g4, g5⟩ := HO7.out
       have HK1' := Lib.hid g1
       have HK2' := Lib.hid g2
       have HK3' := Lib.hid g3
       have HT7 : Hid ((L.take k ++ [s]).length = k + 1) := Lib.hid (by rw [List.length_append, HTL.out]; rfl)
       rw [HT7.out] at g4
       have HK4' := Lib.hid g4
       have HK5' := Lib.hid g5
       clear g1 g2 g3 g4 g5
       refine Text.beff rfl rfl (fun K hK => ?_)
       obtain ⟨iS, i1, i2, i3, i4⟩ := info_some infoStr
       refine wp_appX _ (.tmp 40) (.tmp 43) 23 9 1 iS _ rfl Try.underlying23 i1 i2 i3 rfl v7 (k + 1) _ rfl HK4'.out _ (n - k) _ rfl (HC4.out _ HX7.out) (by rw [i4]; omega) (by omega) ?_
       intro v9 w9 ap
       have HR9 := Lib.hid ap
       have HX9 : Hid (Below wx.heap.size wx w9) := Lib.hid (((Kp.of_below (S := fun _ => False) HX7.out).after ap.kp (fun i hi e => by have := HK5'.out i e; omega)).below (Nat.le_refl _) (fun _ h => h.elim))
       refine hK _ _ HX9.out ?_
       clear hK K ap i1 i2 i3 i4
       have HO9 : Hid (OL rStr 1 9 wx w9 v9 (L.take k ++ [s] ++ L.drop k)) := Lib.hid (OL.app HK1'.out HK2'.out HK3'.out HK5'.out HT7.out HC1.out HC2.out HC3.out HDL.out HX7.out.size HR9.out)
       (refine Text.bpurek rfl rfl (fun K hK => ⟨_, fun w' => by go_simp <;> rfl, ?_⟩); go_simp; refine hK _ ?_; clear hK K)
       refine Text.bdone ?_
       go_wp2_with fail
       go_ret
       exact fin_add HR.out HO9.out HX9.out hb.out (by have := HL.out; omega)
      ·
       refine Text.beff rfl rfl (fun K hK => ?_)
       refine wp_bslice 23 9 1 _ rfl #[(0, .string (strB s))] (by rw [List.map_toArray]; rfl) [.string (strB s)] (bslStr _ _) ?_
       intro wb a1 a2 a3
       have HBwb := Lib.hid a2
       have HXwb : Hid (Below wx.heap.size wx wb) := Lib.hid (below_thenB (HXwa).out (by have := (HXwa).out.size; exact this) a2)
       have HGwb := Lib.hid a1
       refine hK _ _ HXwb.out ?_
       clear hK K a1 a2 a3
       have HG9 := Lib.hid (HGwa.out.kept HBwb.out)
       refine Text.beff rfl rfl (fun K hK => ?_)
       obtain ⟨iS, i1, i2, i3, i4⟩ := info_some infoStr
       refine wp_appX _ (.tmp 33) (.tmp 36) 23 9 1 iS _ rfl Try.underlying23 i1 i2 i3 rfl _ 0 [] rfl (RW.of_blk (n := 0) (HG9).out (by simp) (by decide)) _ k _ rfl (HA4.out _ (HXwb).out) (by rw [i4]; omega) (by omega) ?_
       intro v4 wc ap
       have HAP4 := Lib.hid ap
       have HXwc : Hid (Below wx.heap.size wx wc) := Lib.hid (((Kp.of_below (S := fun _ => False) (HXwb).out).after ap.kp (fun i hi e => by have e' : wx.heap.size = i := Option.some.inj e; have := (HZwa).out; omega)).below (Nat.le_refl _) (fun _ h => h.elim))
       refine hK _ _ HXwc.out ?_
       clear hK K ap i1 i2 i3 i4
       have HO4 : Hid (OL rStr 1 9 wx wc v4 (L.take k)) := Lib.hid (by
        have ho : OL rStr 1 9 wx wc v4 ([] ++ L.take k) := OL.app (css := []) rfl (fun _ h => by cases h) (fun _ h => absurd h (by simp)) (fun b hb => by cases hb; exact (HZwa).out) rfl HA1.out HA2.out HA3.out HTL.out (HXwb).out.size HAP4.out
        exact ho)
       have HGs := Lib.hid (HGwb.out.kp HAP4.out.kp (fun e => by have e' : wx.heap.size = wa.heap.size := Option.some.inj e; have h7 : wx.heap.size < wa.heap.size := HGwa.out.lt; omega))
       obtain ⟨cs4, g1, g2, g3, g4, g5⟩ := (HO4).out
       have HK1 := Lib.hid g1
       have HK2 := Lib.hid g2
       have HK3 := Lib.hid g3
       rw [HTL.out] at g4
       have HK4 := Lib.hid g4
       have HK5 := Lib.hid g5
       clear g1 g2 g3 g4 g5
       refine Text.beff rfl rfl (fun K hK => ?_)
       obtain ⟨iS, i1, i2, i3, i4⟩ := info_some infoStr
       refine wp_appRW _ (.tmp 37) (.tmp 39) 23 9 1 iS _ rfl Try.underlying23 i1 i2 i3 rfl v4 k _ rfl HK4.out wa.heap.size [.string (strB s)] rfl (HGs).out rfl (one_val _ rfl) (by rw [i4]; omega) (by omega) ?_
       intro v7 w7 ap
       have HR7 := Lib.hid ap
       have HX7 : Hid (Below wx.heap.size wx w7) := Lib.hid (((Kp.of_below (S := fun _ => False) (HXwc).out).after ap.kp (fun i hi e => by have := HK5.out i e; omega)).below (Nat.le_refl _) (fun _ h => h.elim))
       refine hK _ _ HX7.out ?_
       clear hK K ap i1 i2 i3 i4
       have HO7 : Hid (OL rStr 1 9 wx w7 v7 (L.take k ++ [s])) := Lib.hid (OL.push HK1.out HK2.out HK3.out HK5.out HTL.out rfl ⟨rfl, HS.out⟩ (HXwc).out.size HR7.out)
       obtain ⟨cs7, g1, g2, g3, g4, g5⟩ := HO7.out
       have HK1' := Lib.hid g1
       have HK2' := Lib.hid g2
       have HK3' := Lib.hid g3
       have HT7 : Hid ((L.take k ++ [s]).length = k + 1) := Lib.hid (by rw [List.length_append, HTL.out]; rfl)
       rw [HT7.out] at g4
       have HK4' := Lib.hid g4
       have HK5' := Lib.hid g5
       clear g1 g2 g3 g4 g5
       refine Text.beff rfl rfl (fun K hK => ?_)
       obtain ⟨iS, i1, i2, i3, i4⟩ := info_some infoStr
       refine wp_appX _ (.tmp 40) (.tmp 43) 23 9 1 iS _ rfl Try.underlying23 i1 i2 i3 rfl v7 (k + 1) _ rfl HK4'.out _ (n - k) _ rfl (HC4.out _ HX7.out) (by rw [i4]; omega) (by omega) ?_
       intro v9 w9 ap
       have HR9 := Lib.hid ap
       have HX9 : Hid (Below wx.heap.size wx w9) := Lib.hid (((Kp.of_below (S := fun _ => False) HX7.out).after ap.kp (fun i hi e => by have := HK5'.out i e; omega)).below (Nat.le_refl _) (fun _ h => h.elim))
       refine hK _ _ HX9.out ?_
       clear hK K ap i1 i2 i3 i4
       have HO9 : Hid (OL rStr 1 9 wx w9 v9 (L.take k ++ [s] ++ L.drop k)) := Lib.hid (OL.app HK1'.out HK2'.out HK3'.out HK5'.out HT7.out HC1.out HC2.out HC3.out HDL.out HX7.out.size HR9.out)
       (refine Text.bpurek rfl rfl (fun K hK => ⟨_, fun w' => by go_simp <;> rfl, ?_⟩); go_simp; refine hK _ ?_; clear hK K)
       refine Text.bdone ?_
       go_wp2_with fail
       go_ret
       exact fin_add HR.out HO9.out HX9.out hb.out (by have := HL.out; omega)
     ·
      refine Text.beff rfl rfl (fun K hK => ?_)
      refine wp_bslice 23 9 1 _ rfl #[(0, .string (strB s))] (by rw [List.map_toArray]; rfl) [.string (strB s)] (bslStr _ _) ?_
      intro wa a1 a2 a3
      have HBwa := Lib.hid a2
      have HXwa : Hid (Below wx.heap.size wx wa) := Lib.hid (below_thenB (HX0).out (by have := (HX0).out.size; exact this) a2)
      have HGwa := Lib.hid a1
      refine hK _ _ HXwa.out ?_
      clear hK K a1 a2 a3
      refine Text.beff rfl rfl (fun K hK => ?_)
      refine wp_bslice 23 9 0 _ rfl #[] (by rw [List.map_toArray]; rfl) [] (bsl0_str _) ?_
      intro wb a1 a2 a3
      have HBwb := Lib.hid a2
      have HXwb : Hid (Below wx.heap.size wx wb) := Lib.hid (below_thenB (HXwa).out (by have := (HXwa).out.size; exact this) a2)
      have HZwb : Hid (wx.heap.size ≤ wa.heap.size) := Lib.hid (by have := (HXwa).out.size; exact this)
      have HGwb := Lib.hid a1
      refine hK _ _ HXwb.out ?_
      clear hK K a1 a2 a3
      have HGa := Lib.hid (HGwa.out.kept HBwb.out)
      refine Text.beff rfl rfl (fun K hK => ?_)
      obtain ⟨iS, i1, i2, i3, i4⟩ := info_some infoStr
      refine wp_appX _ (.tmp 33) (.tmp 36) 23 9 1 iS _ rfl Try.underlying23 i1 i2 i3 rfl _ 0 [] rfl (RW.of_blk (n := 0) (HGwb).out (by simp) (by decide)) _ k _ rfl (HA4.out _ (HXwb).out) (by rw [i4]; omega) (by omega) ?_
      intro v4 wc ap
      have HAP4 := Lib.hid ap
      have HXwc : Hid (Below wx.heap.size wx wc) := Lib.hid (((Kp.of_below (S := fun _ => False) (HXwb).out).after ap.kp (fun i hi e => by have e' : wa.heap.size = i := Option.some.inj e; have := (HZwb).out; omega)).below (Nat.le_refl _) (fun _ h => h.elim))
      refine hK _ _ HXwc.out ?_
      clear hK K ap i1 i2 i3 i4
      have HO4 : Hid (OL rStr 1 9 wx wc v4 (L.take k)) := Lib.hid (by
       have ho : OL rStr 1 9 wx wc v4 ([] ++ L.take k) := OL.app (css := []) rfl (fun _ h => by cases h) (fun _ h => absurd h (by simp)) (fun b hb => by cases hb; exact (HZwb).out) rfl HA1.out HA2.out HA3.out HTL.out (HXwb).out.size HAP4.out
       exact ho)
      have HGs := Lib.hid (HGa.out.kp HAP4.out.kp (fun e => by have e' : wa.heap.size = wx.heap.size := Option.some.inj e; have h7 : wx.heap.size < wa.heap.size := HGwa.out.lt; omega))
      obtain ⟨cs4, g1, g2, g3, g4, g5⟩ := (HO4).out
      have HK1 := Lib.hid g1
      have HK2 := Lib.hid g2
      have HK3 := Lib.hid g3
      rw [HTL.out] at g4
      have HK4 := Lib.hid g4
      have HK5 := Lib.hid g5
      clear g1 g2 g3 g4 g5
      refine Text.beff rfl rfl (fun K hK => ?_)
      obtain ⟨iS, i1, i2, i3, i4⟩ := info_some infoStr
      refine wp_appRW _ (.tmp 37) (.tmp 39) 23 9 1 iS _ rfl Try.underlying23 i1 i2 i3 rfl v4 k _ rfl HK4.out wx.drew.heap.size [.string (strB s)] rfl (HGs).out rfl (one_val _ rfl) (by rw [i4]; omega) (by omega) ?_
      intro v7 w7 ap
      have HR7 := Lib.hid ap
      have HX7 : Hid (Below wx.heap.size wx w7) := Lib.hid (((Kp.of_below (S := fun _ => False) (HXwc).out).after ap.kp (fun i hi e => by have := HK5.out i e; omega)).below (Nat.le_refl _) (fun _ h => h.elim))
      refine hK _ _ HX7.out ?_
      clear hK K ap i1 i2 i3 i4
      have HO7 : Hid (OL rStr 1 9 wx w7 v7 (L.take k ++ [s])) := Lib.hid (OL.push HK1.out HK2.out HK3.out HK5.out HTL.out rfl ⟨rfl, HS.out⟩ (HXwc).out.size HR7.out)
      obtain ⟨cs7, g1, g2, g3, g4, g5⟩ := HO7.out
      have HK1' := Lib.hid g1
      have HK2' := Lib.hid g2
      have HK3' := Lib.hid g3
      have HT7 : Hid ((L.take k ++ [s]).length = k + 1) := Lib.hid (by rw [List.length_append, HTL.out]; rfl)
      rw [HT7.out] at g4
      have HK4' := Lib.hid g4
      have HK5' := Lib.hid g5
      clear g1 g2 g3 g4 g5
      refine Text.beff rfl rfl (fun K hK => ?_)
      obtain ⟨iS, i1, i2, i3, i4⟩ := info_some infoStr
      refine wp_appX _ (.tmp 40) (.tmp 43) 23 9 1 iS _ rfl Try.underlying23 i1 i2 i3 rfl v7 (k + 1) _ rfl HK4'.out _ (n - k) _ rfl (HC4.out _ HX7.out) (by rw [i4]; omega) (by omega) ?_
      intro v9 w9 ap
      have HR9 := Lib.hid ap
      have HX9 : Hid (Below wx.heap.size wx w9) := Lib.hid (((Kp.of_below (S := fun _ => False) HX7.out).after ap.kp (fun i hi e => by have := HK5'.out i e; omega)).below (Nat.le_refl _) (fun _ h => h.elim))
      refine hK _ _ HX9.out ?_
      clear hK K ap i1 i2 i3 i4
      have HO9 : Hid (OL rStr 1 9 wx w9 v9 (L.take k ++ [s] ++ L.drop k)) := Lib.hid (OL.app HK1'.out HK2'.out HK3'.out HK5'.out HT7.out HC1.out HC2.out HC3.out HDL.out HX7.out.size HR9.out)
      (refine Text.bpurek rfl rfl (fun K hK => ⟨_, fun w' => by go_simp <;> rfl, ?_⟩); go_simp; refine hK _ ?_; clear hK K)
      refine Text.bdone ?_
      go_wp2_with fail
      go_ret
      exact fin_add HR.out HO9.out HX9.out hb.out (by have := HL.out; omega)
  ·
   have hkn' : L.length ≤ k := by have := HL.out; omega
   have HR : Hid (addS L s = L.take k ++ s :: L.drop k) := Lib.hid (by
    rw [addS_at hall.out (fun z hz => by rw [List.getElem?_eq_none hkn'] at hz; cases hz), if_neg (fun e => by rw [List.getElem?_eq_none hkn'] at e; cases e)])
   go_wp2_with fail
   have LHX := Lib.hid (H.out.kept stay_str hb.out)
   obtain ⟨dss, k1', k2', k3', hsrc1⟩ := (LHX.out.pre hk).src (P := Try.prog) len_str ones_str Try.underlying23
   have HA1 := Lib.hid k1'
   have HA2 := Lib.hid k2'
   have HA3 := Lib.hid k3'
   have HA4 := Lib.hid hsrc1
   obtain ⟨ess, c1', c2', c3', hsrc2⟩ := (LHX.out.cutS hk).src (P := Try.prog) len_str ones_str Try.underlying23
   have HC1 := Lib.hid c1'
   have HC2 := Lib.hid c2'
   have HC3 := Lib.hid c3'
   have HC4 := Lib.hid hsrc2
   have HTL : Hid ((L.take k).length = k) := Lib.hid (LHX.out.pre hk).1
   have HDL : Hid ((L.drop k).length = n - k) := Lib.hid (by rw [List.length_drop, HL.out])
   have HNC : Hid (n ≤ c) := Lib.hid H.out.2.1
   have hn1 := HN1.out
   clear k1' k2' k3' hsrc1 c1' c2' c3' hsrc2
   have HX0 : Hid (Below wx.heap.size wx wx.drew) := Lib.hid (Below.refl _ _).drew
   refine Text.wp_region_bt (fun w' => Below wx.heap.size wx w') (.still 1 4 (.still 2 4 (.still 3 4 (.still 5 4 (.still 8 4 (.still 9 4 (.still 10 4 (.br 0 (.br 4 (.eff 6 (.eff 7 (.eff 11 (.still 12 4 .leaf)))) 6 (.eff 4 (.eff 7 (.eff 11 (.still 12 4 .leaf))))) 6 (.eff 0 (.eff 4 (.eff 7 (.eff 11 (.still 12 4 .leaf))))))))))))) (by kernel_rfl) (by kernel_rfl) (fun _ _ _ _ _ h => h) ((Below.refl _ _).drew) ?_
   iterate 2 (refine Text.bpurek rfl rfl (fun K hK => ⟨_, fun w' => by go_simp <;> rfl, ?_⟩); go_simp; refine hK _ ?_; clear hK K)
   refine Text.bpurek rfl rfl (fun K hK => ⟨_, fun w' => exec_preS (.tmp 34) (.tmp 35) 23 9 rfl Try.underlying23 (by kernel_rfl) _ n c k rfl (by go_simp) hk HNC.out, ?_⟩)
   go_simp
   refine hK _ ?_
   clear hK K
   iterate 3 (refine Text.bpurek rfl rfl (fun K hK => ⟨_, fun w' => by go_simp <;> rfl, ?_⟩); go_simp; refine hK _ ?_; clear hK K)
   refine Text.bpurek rfl rfl (fun K hK => ⟨_, fun w' => exec_cutS (.tmp 41) (.tmp 42) 23 9 rfl Try.underlying23 (by kernel_rfl) _ n c k rfl (by go_simp) hk, ?_⟩)
   go_simp
   refine hK _ ?_
   clear hK K
   refine Text.bfork ?_ ?_
   ·
    refine Text.beff rfl rfl (fun K hK => ?_)
    refine wp_bslice 23 9 0 _ rfl #[] (by rw [List.map_toArray]; rfl) [] (bsl0_str _) ?_
    intro wa a1 a2 a3
    have HBwa := Lib.hid a2
    have HXwa : Hid (Below wx.heap.size wx wa) := Lib.hid (below_thenB (HX0).out (by have := (HX0).out.size; exact this) a2)
    have HZwa : Hid (wx.heap.size ≤ wx.heap.size) := Lib.hid (by have := (HX0).out.size; exact this)
    have HGwa := Lib.hid a1
    refine hK _ _ HXwa.out ?_
    clear hK K a1 a2 a3
    refine Text.bfork ?_ ?_
    ·
     refine Text.beff rfl rfl (fun K hK => ?_)
     obtain ⟨iS, i1, i2, i3, i4⟩ := info_some infoStr
     refine wp_appX _ (.tmp 33) (.tmp 36) 23 9 1 iS _ rfl Try.underlying23 i1 i2 i3 rfl _ 0 [] rfl (RW.of_blk (n := 0) (HGwa).out (by simp) (by decide)) _ k _ rfl (HA4.out _ (HXwa).out) (by rw [i4]; omega) (by omega) ?_
     intro v4 wb ap
     have HAP4 := Lib.hid ap
     have HXwb : Hid (Below wx.heap.size wx wb) := Lib.hid (((Kp.of_below (S := fun _ => False) (HXwa).out).after ap.kp (fun i hi e => by have e' : wx.heap.size = i := Option.some.inj e; have := (HZwa).out; omega)).below (Nat.le_refl _) (fun _ h => h.elim))
     refine hK _ _ HXwb.out ?_
     clear hK K ap i1 i2 i3 i4
     have HO4 : Hid (OL rStr 1 9 wx wb v4 (L.take k)) := Lib.hid (by
      have ho : OL rStr 1 9 wx wb v4 ([] ++ L.take k) := OL.app (css := []) rfl (fun _ h => by cases h) (fun _ h => absurd h (by simp)) (fun b hb => by cases hb; exact (HZwa).out) rfl HA1.out HA2.out HA3.out HTL.out (HXwa).out.size HAP4.out
      exact ho)
     refine Text.beff rfl rfl (fun K hK => ?_)
     refine wp_bslice 23 9 1 _ rfl #[(0, .string (strB s))] (by rw [List.map_toArray]; rfl) [.string (strB s)] (bslStr _ _) ?_
     intro wc a1 a2 a3
     have HBwc := Lib.hid a2
     have HXwc : Hid (Below wx.heap.size wx wc) := Lib.hid (below_thenB (HXwb).out (by have := (HXwb).out.size; exact this) a2)
     have HGwc := Lib.hid a1
     refine hK _ _ HXwc.out ?_
     clear hK K a1 a2 a3
     have HO5 := Lib.hid (HO4.out.kept HBwc.out)
     obtain ⟨cs4, g1, g2, g3, g4, g5⟩ := (HO5).out
     have HK1 := Lib.hid g1
     have HK2 := Lib.hid g2
     have HK3 := Lib.hid g3
     rw [HTL.out] at g4
     have HK4 := Lib.hid g4
     have HK5 := Lib.hid g5
     clear g1 g2 g3 g4 g5
     refine Text.beff rfl rfl (fun K hK => ?_)
     obtain ⟨iS, i1, i2, i3, i4⟩ := info_some infoStr
     refine wp_appRW _ (.tmp 37) (.tmp 39) 23 9 1 iS _ rfl Try.underlying23 i1 i2 i3 rfl v4 k _ rfl HK4.out wb.heap.size [.string (strB s)] rfl (HGwc).out rfl (one_val _ rfl) (by rw [i4]; omega) (by omega) ?_
     intro v7 w7 ap
     have HR7 := Lib.hid ap
     have HX7 : Hid (Below wx.heap.size wx w7) := Lib.hid (((Kp.of_below (S := fun _ => False) (HXwc).out).after ap.kp (fun i hi e => by have := HK5.out i e; omega)).below (Nat.le_refl _) (fun _ h => h.elim))
     refine hK _ _ HX7.out ?_
     clear hK K ap i1 i2 i3 i4
     have HO7 : Hid (OL rStr 1 9 wx w7 v7 (L.take k ++ [s])) := Lib.hid (OL.push HK1.out HK2.out HK3.out HK5.out HTL.out rfl ⟨rfl, HS.out⟩ (HXwc).out.size HR7.out)
     obtain ⟨cs7, g1, g2, g3, g4, g5⟩ := HO7.out
     have HK1' := Lib.hid g1
     have HK2' := Lib.hid g2
     have HK3' := Lib.hid g3
     have HT7 : Hid ((L.take k ++ [s]).length = k + 1) := Lib.hid (by rw [List.length_append, HTL.out]; rfl)
     rw [HT7.out] at g4
     have HK4' := Lib.hid g4
     have HK5' := Lib.hid g5
     clear g1 g2 g3 g4 g5
     refine Text.beff rfl rfl (fun K hK => ?_)
     obtain ⟨iS, i1, i2, i3, i4⟩ := info_some infoStr
     refine wp_appX _ (.tmp 40) (.tmp 43) 23 9 1 iS _ rfl Try.underlying23 i1 i2 i3 rfl v7 (k + 1) _ rfl HK4'.out _ (n - k) _ rfl (HC4.out _ HX7.out) (by rw [i4]; omega) (by omega) ?_
     intro v9 w9 ap
     have HR9 := Lib.hid ap
     have HX9 : Hid (Below wx.heap.size wx w9) := Lib.hid (((Kp.of_below (S := fun _ => False) HX7.out).after ap.kp (fun i hi e => by have := HK5'.out i e; omega)).below (Nat.le_refl _) (fun _ h => h.elim))
     refine hK _ _ HX9.out ?_
     clear hK K ap i1 i2 i3 i4
     have HO9 : Hid (OL rStr 1 9 wx w9 v9 (L.take k ++ [s] ++ L.drop k)) := Lib.hid (OL.app HK1'.out HK2'.out HK3'.out HK5'.out HT7.out HC1.out HC2.out HC3.out HDL.out HX7.out.size HR9.out)
     (refine Text.bpurek rfl rfl (fun K hK => ⟨_, fun w' => by go_simp <;> rfl, ?_⟩); go_simp; refine hK _ ?_; clear hK K)
     refine Text.bdone ?_
     go_wp2_with fail
     go_ret
     exact fin_add HR.out HO9.out HX9.out hb.out (by have := HL.out; omega)
    ·
     refine Text.beff rfl rfl (fun K hK => ?_)
     refine wp_bslice 23 9 1 _ rfl #[(0, .string (strB s))] (by rw [List.map_toArray]; rfl) [.string (strB s)] (bslStr _ _) ?_
     intro wb a1 a2 a3
     have HBwb := Lib.hid a2
     have HXwb : Hid (Below wx.heap.size wx wb) := Lib.hid (below_thenB (HXwa).out (by have := (HXwa).out.size; exact this) a2)
     have HGwb := Lib.hid a1
     refine hK _ _ HXwb.out ?_
     clear hK K a1 a2 a3
     have HG9 := Lib.hid (HGwa.out.kept HBwb.out)
     refine Text.beff rfl rfl (fun K hK => ?_)
     obtain ⟨iS, i1, i2, i3, i4⟩ := info_some infoStr
     refine wp_appX _ (.tmp 33) (.tmp 36) 23 9 1 iS _ rfl Try.underlying23 i1 i2 i3 rfl _ 0 [] rfl (RW.of_blk (n := 0) (HG9).out (by simp) (by decide)) _ k _ rfl (HA4.out _ (HXwb).out) (by rw [i4]; omega) (by omega) ?_
     intro v4 wc ap
     have HAP4 := Lib.hid ap
     have HXwc : Hid (Below wx.heap.size wx wc) := Lib.hid (((Kp.of_below (S := fun _ => False) (HXwb).out).after ap.kp (fun i hi e => by have e' : wx.heap.size = i := Option.some.inj e; have := (HZwa).out; omega)).below (Nat.le_refl _) (fun _ h => h.elim))
     refine hK _ _ HXwc.out ?_
     clear hK K ap i1 i2 i3 i4
     have HO4 : Hid (OL rStr 1 9 wx wc v4 (L.take k)) := Lib.hid (by
      have ho : OL rStr 1 9 wx wc v4 ([] ++ L.take k) := OL.app (css := []) rfl (fun _ h => by cases h) (fun _ h => absurd h (by simp)) (fun b hb => by cases hb; exact (HZwa).out) rfl HA1.out HA2.out HA3.out HTL.out (HXwb).out.size HAP4.out
      exact ho)
     have HGs := Lib.hid (HGwb.out.kp HAP4.out.kp (fun e => by have e' : wx.heap.size = wa.heap.size := Option.some.inj e; have h7 : wx.heap.size < wa.heap.size := HGwa.out.lt; omega))
     obtain ⟨cs4, g1, g2, g3, g4, g5⟩ := (HO4).out
     have HK1 := Lib.hid g1
     have HK2 := Lib.hid g2
     have HK3 := Lib.hid g3
     rw [HTL.out] at g4
     have HK4 := Lib.hid g4
     have HK5 := Lib.hid g5
     clear g1 g2 g3 g4 g5
     refine Text.beff rfl rfl (fun K hK => ?_)
     obtain ⟨iS, i1, i2, i3, i4⟩ := info_some infoStr
     refine wp_appRW _ (.tmp 37) (.tmp 39) 23 9 1 iS _ rfl Try.underlying23 i1 i2 i3 rfl v4 k _ rfl HK4.out wa.heap.size [.string (strB s)] rfl (HGs).out rfl (one_val _ rfl) (by rw [i4]; omega) (by omega) ?_
     intro v7 w7 ap
     have HR7 := Lib.hid ap
     have HX7 : Hid (Below wx.heap.size wx w7) := Lib.hid (((Kp.of_below (S := fun _ => False) (HXwc).out).after ap.kp (fun i hi e => by have := HK5.out i e; omega)).below (Nat.le_refl _) (fun _ h => h.elim))
     refine hK _ _ HX7.out ?_
     clear hK K ap i1 i2 i3 i4
     have HO7 : Hid (OL rStr 1 9 wx w7 v7 (L.take k ++ [s])) := Lib.hid (OL.push HK1.out HK2.out HK3.out HK5.out HTL.out rfl ⟨rfl, HS.out⟩ (HXwc).out.size HR7.out)
     obtain ⟨cs7, g1, g2, g3, g4, g5⟩ := HO7.out
     have HK1' := Lib.hid g1
     have HK2' := Lib.hid g2
     have HK3' := Lib.hid g3
     have HT7 : Hid ((L.take k ++ [s]).length = k + 1) := Lib.hid (by rw [List.length_append, HTL.out]; rfl)
     rw [HT7.out] at g4
     have HK4' := Lib.hid g4
     have HK5' := Lib.hid g5
     clear g1 g2 g3 g4 g5
     refine Text.beff rfl rfl (fun K hK => ?_)
     obtain ⟨iS, i1, i2, i3, i4⟩ := info_some infoStr
     refine wp_appX _ (.tmp 40) (.tmp 43) 23 9 1 iS _ rfl Try.underlying23 i1 i2 i3 rfl v7 (k + 1) _ rfl HK4'.out _ (n - k) _ rfl (HC4.out _ HX7.out) (by rw [i4]; omega) (by omega) ?_
     intro v9 w9 ap
     have HR9 := Lib.hid ap
     have HX9 : Hid (Below wx.heap.size wx w9) := Lib.hid (((Kp.of_below (S := fun _ => False) HX7.out).after ap.kp (fun i hi e => by have := HK5'.out i e; omega)).below (Nat.le_refl _) (fun _ h => h.elim))
     refine hK _ _ HX9.out ?_
     clear hK K ap i1 i2 i3 i4
     have HO9 : Hid (OL rStr 1 9 wx w9 v9 (L.take k ++ [s] ++ L.drop k)) := Lib.hid (OL.app HK1'.out HK2'.out HK3'.out HK5'.out HT7.out HC1.out HC2.out HC3.out HDL.out HX7.out.size HR9.out)
     (refine Text.bpurek rfl rfl (fun K hK => ⟨_, fun w' => by go_simp <;> rfl, ?_⟩); go_simp; refine hK _ ?_; clear hK K)
     refine Text.bdone ?_
     go_wp2_with fail
     go_ret
     exact fin_add HR.out HO9.out HX9.out hb.out (by have := HL.out; omega)
   ·
    refine Text.beff rfl rfl (fun K hK => ?_)
    refine wp_bslice 23 9 1 _ rfl #[(0, .string (strB s))] (by rw [List.map_toArray]; rfl) [.string (strB s)] (bslStr _ _) ?_
    intro wa a1 a2 a3
    have HBwa := Lib.hid a2
    have HXwa : Hid (Below wx.heap.size wx wa) := Lib.hid (below_thenB (HX0).out (by have := (HX0).out.size; exact this) a2)
    have HGwa := Lib.hid a1
    refine hK _ _ HXwa.out ?_
    clear hK K a1 a2 a3
    refine Text.beff rfl rfl (fun K hK => ?_)
    refine wp_bslice 23 9 0 _ rfl #[] (by rw [List.map_toArray]; rfl) [] (bsl0_str _) ?_
    intro wb a1 a2 a3
    have HBwb := Lib.hid a2
    have HXwb : Hid (Below wx.heap.size wx wb) := Lib.hid (below_thenB (HXwa).out (by have := (HXwa).out.size; exact this) a2)
    have HZwb : Hid (wx.heap.size ≤ wa.heap.size) := Lib.hid (by have := (HXwa).out.size; exact this)
    have HGwb := Lib.hid a1
    refine hK _ _ HXwb.out ?_
    clear hK K a1 a2 a3
    have HGa := Lib.hid (HGwa.out.kept HBwb.out)
    refine Text.beff rfl rfl (fun K hK => ?_)
    obtain ⟨iS, i1, i2, i3, i4⟩ := info_some infoStr
    refine wp_appX _ (.tmp 33) (.tmp 36) 23 9 1 iS _ rfl Try.underlying23 i1 i2 i3 rfl _ 0 [] rfl (RW.of_blk (n := 0) (HGwb).out (by simp) (by decide)) _ k _ rfl (HA4.out _ (HXwb).out) (by rw [i4]; omega) (by omega) ?_
    intro v4 wc ap
    have HAP4 := Lib.hid ap
    have HXwc : Hid (Below wx.heap.size wx wc) := Lib.hid (((Kp.of_below (S := fun _ => False) (HXwb).out).after ap.kp (fun i hi e => by have e' : wa.heap.size = i := Option.some.inj e; have := (HZwb).out; omega)).below (Nat.le_refl _) (fun _ h => h.elim))
    refine hK _ _ HXwc.out ?_
    clear hK K ap i1 i2 i3 i4
    have HO4 : Hid (OL rStr 1 9 wx wc v4 (L.take k)) := Lib.hid (by
     have ho : OL rStr 1 9 wx wc v4 ([] ++ L.take k) := OL.app (css := []) rfl (fun _ h => by cases h) (fun _ h => absurd h (by simp)) (fun b hb => by cases hb; exact (HZwb).out) rfl HA1.out HA2.out HA3.out HTL.out (HXwb).out.size HAP4.out
     exact ho)
    have HGs := Lib.hid (HGa.out.kp HAP4.out.kp (fun e => by have e' : wa.heap.size = wx.heap.size := Option.some.inj e; have h7 : wx.heap.size < wa.heap.size := HGwa.out.lt; omega))
    obtain ⟨cs4, g1, g2, g3, g4, g5⟩ := (HO4).out
    have HK1 := Lib.hid g1
    have HK2 := Lib.hid g2
    have HK3 := Lib.hid g3
    rw [HTL.out] at g4
    have HK4 := Lib.hid g4
    have HK5 := Lib.hid g5
    clear g1 g2 g3 g4 g5
    refine Text.beff rfl rfl (fun K hK => ?_)
    obtain ⟨iS, i1, i2, i3, i4⟩ := info_some infoStr
    refine wp_appRW _ (.tmp 37) (.tmp 39) 23 9 1 iS _ rfl Try.underlying23 i1 i2 i3 rfl v4 k _ rfl HK4.out wx.drew.heap.size [.string (strB s)] rfl (HGs).out rfl (one_val _ rfl) (by rw [i4]; omega) (by omega) ?_
    intro v7 w7 ap
    have HR7 := Lib.hid ap
    have HX7 : Hid (Below wx.heap.size wx w7) := Lib.hid (((Kp.of_below (S := fun _ => False) (HXwc).out).after ap.kp (fun i hi e => by have := HK5.out i e; omega)).below (Nat.le_refl _) (fun _ h => h.elim))
    refine hK _ _ HX7.out ?_
    clear hK K ap i1 i2 i3 i4
    have HO7 : Hid (OL rStr 1 9 wx w7 v7 (L.take k ++ [s])) := Lib.hid (OL.push HK1.out HK2.out HK3.out HK5.out HTL.out rfl ⟨rfl, HS.out⟩ (HXwc).out.size HR7.out)
    obtain ⟨cs7, g1, g2, g3, g4, g5⟩ := HO7.out
    have HK1' := Lib.hid g1
    have HK2' := Lib.hid g2
    have HK3' := Lib.hid g3
    have HT7 : Hid ((L.take k ++ [s]).length = k + 1) := Lib.hid (by rw [List.length_append, HTL.out]; rfl)
    rw [HT7.out] at g4
    have HK4' := Lib.hid g4
    have HK5' := Lib.hid g5
    clear g1 g2 g3 g4 g5
    refine Text.beff rfl rfl (fun K hK => ?_)
    obtain ⟨iS, i1, i2, i3, i4⟩ := info_some infoStr
    refine wp_appX _ (.tmp 40) (.tmp 43) 23 9 1 iS _ rfl Try.underlying23 i1 i2 i3 rfl v7 (k + 1) _ rfl HK4'.out _ (n - k) _ rfl (HC4.out _ HX7.out) (by rw [i4]; omega) (by omega) ?_
    intro v9 w9 ap
    have HR9 := Lib.hid ap
    have HX9 : Hid (Below wx.heap.size wx w9) := Lib.hid (((Kp.of_below (S := fun _ => False) HX7.out).after ap.kp (fun i hi e => by have := HK5'.out i e; omega)).below (Nat.le_refl _) (fun _ h => h.elim))
    refine hK _ _ HX9.out ?_
    clear hK K ap i1 i2 i3 i4
    have HO9 : Hid (OL rStr 1 9 wx w9 v9 (L.take k ++ [s] ++ L.drop k)) := Lib.hid (OL.app HK1'.out HK2'.out HK3'.out HK5'.out HT7.out HC1.out HC2.out HC3.out HDL.out HX7.out.size HR9.out)
    (refine Text.bpurek rfl rfl (fun K hK => ⟨_, fun w' => by go_simp <;> rfl, ?_⟩); go_simp; refine hK _ ?_; clear hK K)
    refine Text.bdone ?_
    go_wp2_with fail
    go_ret
    exact fin_add HR.out HO9.out HX9.out hb.out (by have := HL.out; omega)
end Go.Proofs.Ytboglaokdgnpaaa
