/- Several texts in one: Uf, LTs, Ot. -/
import Derived.Test.YtkghfeodmbffaaaGreatU1
import Derived.Test.YtkghfeodmbffaaaGreatC17
import Derived.Test.YtkghfeodmbffaaaGreatC16
import Derived.Test.YtkghfeodmbffaaaGreatC7
import Derived.Test.YtkghfeodmbffaaaGreatC6
import Derived.Test.YtkghfeodmbffaaaGreatC2
/- awake17; lists of the call's own, each element's cells told. -/
namespace Go.Proofs.YtkghfeodmbffaaaGreat
open Go Go.RowKit Go.Shelf Gf Sha

/-- A list of the call's own, each element's cells told. -/
def OwnC {α : Type} (C : α → List Value) (s : Nat) (te : TypeId) (w : World) (base : Nat) (v : Value) (L : List α) : Prop := RW w te s v L.length (L.flatMap C) ∧ ∀ b, v.ownBlock = some b → base ≤ b
section
variable {α : Type} {C : α → List Value} {s base : Nat} {te : TypeId} {w w' : World} {v v' : Value} {L : List α}
theorem OwnC.kept (h : OwnC C s te w base v L) (hb : Below w.heap.size w w') : OwnC C s te w' base v L := ⟨h.1.kept hb, h.2⟩
theorem OwnC.kp {S : Nat → Prop} (h : OwnC C s te w base v L) (hk : Kp S w w') (hn : ∀ b, v.ownBlock = some b → ¬ S b) : OwnC C s te w' base v L := ⟨h.1.kp hk hn, h.2⟩
theorem OwnC.push {x : α} (h : OwnC C s te w base v L) (ap : AppR w te s v L.length 1 (L.flatMap C) (C x) v' w') (hb : base ≤ w.heap.size) : OwnC C s te w' base v' (L ++ [x]) := by
  refine ⟨?_, fun b e => (ap.own b e).elim (h.2 b) (fun h1 => by omega)⟩
  have h1 := ap.row
  rw [List.length_append, List.flatMap_append]
  simpa using h1
theorem OwnC.nil' {g : Nat} (h : BL w g te []) (hg : base ≤ g) : OwnC C s te w base (.slice (some ⟨g, 0, none⟩) 0 0) [] := ⟨RW.of_blk h (by simp) (by decide), fun b hb => by cases hb; exact hg⟩
theorem OwnC.ls {R : Rdg α} {b : Nat} (h : OwnC C s te w base v L) (hC : ∀ x, (C x).length = s) (hR : ∀ x ∈ L, R w (C x) x) (hl : L.length * b ≤ lim) : ∃ A c, v = .slice A L.length c ∧ LS R s b w A L.length c L := by
  obtain ⟨A, c, rfl, hnc⟩ := h.1.form
  refine ⟨A, c, rfl, rfl, hnc, hl, fun k hk => ?_⟩
  obtain ⟨g, o, c', e, _, hat⟩ := h.1.at_ (by omega)
  cases e
  exact ⟨g, o, C L[k], rfl, hat.elem hC hk, hR _ (List.getElem_mem hk)⟩
end
theorem RW.ne_rw {w : World} {t1 t2 : TypeId} {s1 s2 n1 n2 : Nat} {v1 v2 : Value} {l1 l2 : List Value} (h1 : RW w t1 s1 v1 n1 l1) (h2 : RW w t2 s2 v2 n2 l2) (ht : t1 ≠ t2) : ∀ b, v1.ownBlock = some b → ¬ v2.ownBlock = some b := fun b e1 e2 => by
  obtain ⟨cs, hb⟩ := h1.ty e1
  exact h2.ne_bl hb ht b e2 rfl
theorem LS.all_ok {α : Type} {C : α → List Value} {ok : α → Prop} {s b n c : Nat} {w : World} {A : Option Addr} {L : List α} (h : LS (fun _ cs x => cs = C x ∧ ok x) s b w A n c L) : ∀ x ∈ L, ok x := fun x hx => by
  obtain ⟨k, hk, rfl⟩ := List.getElem_of_mem hx
  obtain ⟨g, o, cs, _, _, h3⟩ := h.2.2.2 k hk
  exact h3.2
theorem wtL_len (x : Wt) : (wtL x).length = 4 := rfl
theorem hdL_len' (x : Hd) : (hdL x).length = 3 := rfl
theorem blk_ls {α : Type} {C : α → List Value} {ok : α → Prop} {s b g n : Nat} {te : TypeId} {w : World} {L : List α} (h : BL w g te (L.flatMap C)) (hC : ∀ x, (C x).length = s) (hok : ∀ x ∈ L, ok x) (hn : L.length = n) (hl : n * b ≤ lim) (hm : n ≤ maxLen) : LS (fun _ cs x => cs = C x ∧ ok x) s b w (some ⟨g, 0, none⟩) n n L := by
  have hfl : (L.flatMap C).length = n * s := by
    rw [← hn]
    clear h hok hn
    induction L with
    | nil => simp
    | cons x L ih => rw [List.flatMap_cons, List.length_append, hC, ih, List.length_cons, Nat.succ_mul]; omega
  have ho : OwnC C s te w g (.slice (some ⟨g, 0, none⟩) n n) L := ⟨by rw [hn]; exact RW.of_blk h hfl hm, fun b hb => by cases hb; exact Nat.le_refl _⟩
  obtain ⟨A, c, e, hls⟩ := ho.ls (R := fun _ cs x => cs = C x ∧ ok x) (b := b) hC (fun x hx => ⟨rfl, hok x hx⟩) (by rw [hn]; exact hl)
  rw [hn] at e hls
  cases e
  exact hls
def exS : List UInt8 := [115]
def exW : List Wt := [⟨exS, 1, 1, 2⟩]
def exH : List Hd := [⟨0, 1, 0⟩, ⟨3, 1, 0⟩]
def exP : List Pl := [⟨exS, 0, 0⟩, ⟨exS, 1, 3⟩]
def exO : List Ho := [⟨1, [0, 3]⟩]
section
set_option maxRecDepth 100000
theorem ex_as : assignV exW exH [] 100 = (exP, 0) := by decide +kernel
theorem ex_wo : worstI exO = 1 := by decide +kernel
end
theorem exO_ok : ∀ x ∈ exO, HoOk x := fun x hx => by
  have e : x = ⟨1, [0, 3]⟩ := List.mem_singleton.1 hx
  subst e
  refine ⟨by decide, by decide, fun d hd => ?_, ?_⟩
  · have hd' : d ∈ ([0, 3] : List Int) := hd
    simp only [List.mem_cons, List.not_mem_nil, or_false] at hd'
    rcases hd' with rfl | rfl <;> decide
  · show ([0, 3] : List Int).Pairwise (· < ·)
    decide
theorem bldWt (x : Wt) (w : World) : (Instr.build 29 #[(0, .string (strB x.st)), (1, .int .i64 x.sz), (2, .int .i64 x.da), (3, .int .i64 x.to)]).run Tryz.prog w = .ok (.agg (wtL x).toArray) w := by kernel_rfl
theorem bldHd2 (d q : Int) (w : World) : (Instr.build 32 #[(0, .int .i64 d), (1, .int .i64 q)]).run Tryz.prog w = .ok (.agg (hdL ⟨d, q, 0⟩).toArray) w := by kernel_rfl
theorem bldHo2 (z : Int) (A : Option Addr) (n c : Nat) (l : List Int) (w : World) : (Instr.build 49 #[(0, .int .i64 z), (1, .slice A n c)]).run Tryz.prog w = .ok (.agg (hoC ⟨z, l⟩ A n c).toArray) w := by kernel_rfl
theorem bslW1 (x : Wt) (w : World) : (Instr.buildSlice 26 1 #[(0, .agg (wtL x).toArray)]).run Tryz.prog w = .ok (.slice (some ⟨w.heap.size, 0, none⟩) 1 1) (w.alloc (.cells (wtL x).toArray 29)) := by kernel_rfl
theorem bslH1 (x : Hd) (w : World) : (Instr.buildSlice 27 1 #[(0, .agg (hdL x).toArray)]).run Tryz.prog w = .ok (.slice (some ⟨w.heap.size, 0, none⟩) 1 1) (w.alloc (.cells (hdL x).toArray 32)) := by kernel_rfl
theorem bslW0 (w : World) : (Instr.buildSlice 26 0 #[]).run Tryz.prog w = .ok (.slice (some ⟨w.heap.size, 0, none⟩) 0 0) (w.alloc (.cells ([] : List Value).toArray 29)) := by kernel_rfl
theorem bslH0 (w : World) : (Instr.buildSlice 27 0 #[]).run Tryz.prog w = .ok (.slice (some ⟨w.heap.size, 0, none⟩) 0 0) (w.alloc (.cells ([] : List Value).toArray 32)) := by kernel_rfl
theorem bslH2 (x y : Hd) (w : World) : (Instr.buildSlice 27 2 #[(0, .agg (hdL x).toArray), (1, .agg (hdL y).toArray)]).run Tryz.prog w = .ok (.slice (some ⟨w.heap.size, 0, none⟩) 2 2) (w.alloc (.cells (hdL x ++ hdL y).toArray 32)) := by kernel_rfl
theorem exW_ok : ∀ x ∈ exW, okWt x := fun x hx => by
  have e : x = ⟨exS, 1, 1, 2⟩ := List.mem_singleton.1 hx
  subst e
  exact ⟨by show exS.length ≤ reachBytes; unfold reachBytes exS; decide, by rfl, by rfl, by rfl⟩
theorem exH_ok : ∀ x ∈ exH, okHd x := fun x hx => by
  simp only [exH, List.mem_cons, List.not_mem_nil, or_false] at hx
  rcases hx with rfl | rfl <;> exact ⟨by rfl, by rfl, by rfl⟩
set_option maxRecDepth 100000 in
set_option maxHeartbeats 4000000 in
theorem awake17_any (w : World) : Calls Tryz.prog 4 #[] w fun e w' => e = .returned (.bool true) ∧ Below w.heap.size w w' := by
  go_enter Tryz.func4, Tryz.ntmps4
  go_wp2_with (first
    | ((with_reducible show wpList _ _ _ (⟨some 6, _, _, _, _, _⟩ :: _) _ _); refine wpList_build _ rfl 29 _ rfl #[(0, .string (strB exS)), (1, .int .i64 1), (2, .int .i64 1), (3, .int .i64 2)] (by rw [List.map_toArray]; rfl) (.agg (wtL ⟨exS, 1, 1, 2⟩).toArray) (bldWt ⟨exS, 1, 1, 2⟩ _) ?_)
    | ((with_reducible show wpList _ _ _ (⟨some 7, _, _, _, _, _⟩ :: _) _ _); refine wpList_bslice _ rfl 26 29 1 _ rfl #[(0, .agg (wtL ⟨exS, 1, 1, 2⟩).toArray)] (by rw [List.map_toArray]; rfl) (wtL ⟨exS, 1, 1, 2⟩) (bslW1 _ _) ?_; intro w1 a1 a2 a3; have HW1 : Hid (LS rWt 4 40 w1 (some ⟨w.heap.size, 0, none⟩) 1 1 exW) := Lib.hid (blk_ls (C := fun x => wtL x) (L := exW) a1 wtL_len exW_ok rfl (by decide) (by decide)); have HB1 := Lib.hid a2; clear a1 a2 a3)
    | ((with_reducible show wpList _ _ _ (⟨some 8, _, _, _, _, _⟩ :: _) _ _); refine wpList_build _ rfl 32 _ rfl #[(0, .int .i64 0), (1, .int .i64 1)] (by rw [List.map_toArray]; rfl) (.agg (hdL ⟨0, 1, 0⟩).toArray) (bldHd2 0 1 _) ?_)
    | ((with_reducible show wpList _ _ _ (⟨some 9, _, _, _, _, _⟩ :: _) _ _); refine wpList_build _ rfl 32 _ rfl #[(0, .int .i64 3), (1, .int .i64 1)] (by rw [List.map_toArray]; rfl) (.agg (hdL ⟨3, 1, 0⟩).toArray) (bldHd2 3 1 _) ?_)
    | ((with_reducible show wpList _ _ _ (⟨some 10, _, _, _, _, _⟩ :: _) _ _); refine wpList_bslice _ rfl 27 32 2 _ rfl #[(0, .agg (hdL ⟨0, 1, 0⟩).toArray), (1, .agg (hdL ⟨3, 1, 0⟩).toArray)] (by rw [List.map_toArray]; rfl) (hdL ⟨0, 1, 0⟩ ++ hdL ⟨3, 1, 0⟩) (bslH2 _ _ _) ?_; intro w2 a1 a2 a3; have HH2 : Hid (LS rHd 3 24 w2 (some ⟨w1.heap.size, 0, none⟩) 2 2 exH) := Lib.hid (blk_ls (C := fun x => hdL x) (L := exH) a1 hdL_len' exH_ok rfl (by decide) (by decide)); have HB2 := Lib.hid (below_then HB1.out a2); have HW2 := Lib.hid (HW1.out.kept stay_wt a2); clear a1 a2 a3)
    | (go_at_call 5; refine (assign_any _ 1 1 exW _ 2 2 exH none 0 0 [] 100 w2 HW2.out HH2.out LS.nil (by omega)).mono ?_; rintro e w3 ⟨A3, n3, c3, rfl, r1, r2⟩; rw [ex_as] at r1 ⊢; have hn3 := r1.1; cases hn3; have HB3 := Lib.hid (below_then HB2.out r2); clear r1 r2)
    | ((with_reducible show wpList _ _ _ (⟨some 15, _, _, _, _, _⟩ :: _) _ _); refine wpList_bslice _ rfl 24 3 2 _ rfl #[(0, .int .i64 0), (1, .int .i64 3)] (by rw [List.map_toArray]; rfl) [.int .i64 0, .int .i64 3] (bslI2 _ _ _) ?_; intro w4 a1 a2 a3; have HI4 : Hid (LS rInt 1 8 w4 (some ⟨w3.heap.size, 0, none⟩) 2 2 [0, 3]) := Lib.hid (ints_ls (L := [0, 3]) (RW.of_blk a1 (by rfl) (by decide)) rfl (by intro x hx; simp only [List.mem_cons, List.not_mem_nil, or_false] at hx; rcases hx with rfl | rfl <;> rfl) (by decide)); have HB4 := Lib.hid (below_then HB3.out a2); clear a1 a2 a3)
    | ((with_reducible show wpList _ _ _ (⟨some 16, _, _, _, _, _⟩ :: _) _ _); refine wpList_build _ rfl 49 _ rfl #[(0, .int .i64 1), (1, .slice (some ⟨w3.heap.size, 0, none⟩) 2 2)] (by rw [List.map_toArray]; rfl) (.agg (hoC ⟨1, [0, 3]⟩ (some ⟨w3.heap.size, 0, none⟩) 2 2).toArray) (bldHo2 1 _ _ _ _ _) ?_)
    | ((with_reducible show wpList _ _ _ (⟨some 17, _, _, _, _, _⟩ :: _) _ _); refine wpList_bslice _ rfl 40 49 1 _ rfl #[(0, .agg (hoC ⟨1, [0, 3]⟩ (some ⟨w3.heap.size, 0, none⟩) 2 2).toArray)] (by rw [List.map_toArray]; rfl) (hoC ⟨1, [0, 3]⟩ (some ⟨w3.heap.size, 0, none⟩) 2 2) (bslHo1 _ _ _ _ _) ?_; intro w5 a1 a2 a3; have HL5 : Hid (LS rHo 2 32 w5 (some ⟨w4.heap.size, 0, none⟩) 1 1 exO) := Lib.hid ⟨rfl, Nat.le_refl _, by decide, fun k hk => ⟨_, 0, hoC ⟨1, [0, 3]⟩ (some ⟨w3.heap.size, 0, none⟩) 2 2, rfl, (by have e : k = 0 := (by have : k < 1 := hk; omega); subst e; exact BL.all a1), (by have e : k = 0 := (by have : k < 1 := hk; omega); subst e; exact ⟨_, _, _, rfl, HI4.out.kept stay_int a2, by rfl⟩)⟩⟩; have HB5 := Lib.hid (below_then HB4.out a2); clear a1 a2 a3)
    | (go_at_call 8; refine (Worst_any _ 1 1 exO w5 HL5.out exO_ok (by decide)).mono ?_; rintro e w6 ⟨rfl, r2⟩; rw [ex_wo]; have HB6 := Lib.hid (below_then HB5.out r2); clear r2))
  go_ret
  exact ⟨rfl, HB6.out⟩
end Go.Proofs.YtkghfeodmbffaaaGreat
/- TopSurvives: the walk. -/
namespace Go.Proofs.YtkghfeodmbffaaaGreat
open Go Go.RowKit Go.Shelf Gf Sha

theorem least_ok {ws : List Wt} {hs : List Hd} {ps : List Pl} (h : Ok ws hs ps) (hne : ws ≠ []) : leastE ws ps = (leastI ws ps, 0) := by
  unfold leastE
  rw [h.w, h.n]
  cases ws with
  | nil => exact absurd rfl hne
  | cons w r => rfl
theorem devs_12 {ws : List Wt} {hs : List Hd} {ps : List Pl} (h : Ok ws hs ps) (st : List UInt8) : (devsL st ps).length ≤ 12 := by
  have := asc_len (n := 12) (devsL st ps) 0 (by omega) (devs_mem _) (devs_asc h _)
  omega
theorem poss_ok {ws : List Wt} {hs : List Hd} {ex b : Int} (hx : 0 ≤ ex) (hne : ws ≠ []) (h1 : (possV ws hs ex b).2 = 0) (h2 : (assignV ws hs [] b).2 = 0) : (possV ws hs ex b).1 = decide (ex ≤ leastI ws (assignV ws hs [] b).1) := by
  unfold possV at h1 ⊢
  by_cases hc : wantsB ws = true ∧ holdersB hs = true ∧ 0 ≤ ex ∧ ex ≤ 16 ∧ budB b = true
  · rw [if_pos hc] at h1 ⊢
    obtain ⟨hw, hh, _, _, hb⟩ := hc
    have h0 := ok_nil hw hh
    unfold assignV at h2 ⊢
    rw [if_neg (by rw [check_ok.2 h0]; exact fun h => h rfl), if_neg (by rw [hb]; decide)] at h2 ⊢
    have h3 := find_none h0 b.toNat
    cases hf : findA ws hs [] b.toNat with
    | mk x y =>
      try rw [hf] at h2
      rw [hf] at h3
      try rw [hf]
      cases x with
      | false => cases h2
      | true =>
        obtain ⟨cs, h4, h5⟩ := h3 rfl
        have h4' : y = some cs := h4
        subst h4'
        have hp : possP ws hs ex b.toNat = ((possP ws hs ex b.toNat).1, 0) := Prod.ext rfl h1
        exact agrees hw hh hx hne hp h5
  · rw [if_neg hc] at h1; cases h1
theorem drop_at {α : Type} {l : List α} {i : Nat} {x : α} (h : l[i]? = some x) : l.drop i = x :: l.drop (i + 1) := by
  obtain ⟨hlt, hx⟩ := List.getElem?_eq_some_iff.1 h
  rw [← hx]
  exact List.drop_eq_getElem_cons hlt
theorem bslI0 (w : World) : (Instr.buildSlice 24 0 #[]).run Tryz.prog w = .ok (.slice (some ⟨w.heap.size, 0, none⟩) 0 0) (w.alloc (.cells ([] : List Value).toArray 3)) := by kernel_rfl
set_option maxRecDepth 100000 in
set_option maxHeartbeats 8000000 in
theorem survives_walk (A : Option Addr) (n c : Nat) (ws : List Wt) (B : Option Addr) (m d : Nat) (hs : List Hd) (ex : Int) (C : Option Addr) (p q : Nat) (S : List Int) (w : World) (h : LS rWt 4 40 w A n c ws) (hh : LS rHd 3 24 w B m d hs) (hl : LS rInt 1 8 w C p q S) :
    Calls Tryz.prog 3 #[.slice A n c, .slice B m d, .int .i64 ex, .slice C p q] w fun e w' => e = .returned (.bool true) ∧ Below w.heap.size w w' := by
  have H := Lib.hid h
  have HL := Lib.hid h.1
  have HH := Lib.hid hh
  have HHL := Lib.hid hh.1
  have HS := Lib.hid hl
  have HSL := Lib.hid hl.1
  have HOW : Hid (∀ x ∈ ws, okWt x) := Lib.hid (LS.all_ok (C := fun x => wtL x) (ok := okWt) h)
  have HOH : Hid (∀ x ∈ hs, okHd x) := Lib.hid (LS.all_ok (C := fun x => hdL x) (ok := okHd) hh)
  clear h hh hl
  cases c1 : decide ((n : Int) < 1) with
  | true =>
    have c1' : decide (n < 1) = true := decide_eq_true (by have := of_decide_eq_true c1; omega)
    go_enter Tryz.func3, Tryz.ntmps3
    go_wp2_with (first
      | (go_at_call 4; refine (awake17_any w).mono ?_; rintro e w1 ⟨rfl, b1⟩; have HB1 := Lib.hid b1; clear b1)
      | fail)
    go_ret
    exact ⟨rfl, HB1.out⟩
  | false =>
  have c1' : decide (n < 1) = false := decide_eq_false (by have := of_decide_eq_false c1; omega)
  cases c2 : decide ((n : Int) > 3) with
  | true =>
    have c2' : decide (n > 3) = true := decide_eq_true (by have := of_decide_eq_true c2; omega)
    go_enter Tryz.func3, Tryz.ntmps3
    go_wp2_with (first
      | (go_at_call 4; refine (awake17_any w).mono ?_; rintro e w1 ⟨rfl, b1⟩; have HB1 := Lib.hid b1; clear b1)
      | fail)
    go_ret
    exact ⟨rfl, HB1.out⟩
  | false =>
  have c2' : decide (n > 3) = false := decide_eq_false (by have := of_decide_eq_false c2; omega)
  cases c3 : decide ((m : Int) > 6) with
  | true =>
    have c3' : decide (m > 6) = true := decide_eq_true (by have := of_decide_eq_true c3; omega)
    go_enter Tryz.func3, Tryz.ntmps3
    go_wp2_with (first
      | (go_at_call 4; refine (awake17_any w).mono ?_; rintro e w1 ⟨rfl, b1⟩; have HB1 := Lib.hid b1; clear b1)
      | fail)
    go_ret
    exact ⟨rfl, HB1.out⟩
  | false =>
  have c3' : decide (m > 6) = false := decide_eq_false (by have := of_decide_eq_false c3; omega)
  cases c4 : decide ((p : Int) > 12) with
  | true =>
    have c4' : decide (p > 12) = true := decide_eq_true (by have := of_decide_eq_true c4; omega)
    go_enter Tryz.func3, Tryz.ntmps3
    go_wp2_with (first
      | (go_at_call 4; refine (awake17_any w).mono ?_; rintro e w1 ⟨rfl, b1⟩; have HB1 := Lib.hid b1; clear b1)
      | fail)
    go_ret
    exact ⟨rfl, HB1.out⟩
  | false =>
  have c4' : decide (p > 12) = false := decide_eq_false (by have := of_decide_eq_false c4; omega)
  cases c5 : decide (ex < 0) with
  | true =>
    go_enter Tryz.func3, Tryz.ntmps3
    go_wp2_with (first
      | (go_at_call 4; refine (awake17_any w).mono ?_; rintro e w1 ⟨rfl, b1⟩; have HB1 := Lib.hid b1; clear b1)
      | fail)
    go_ret
    exact ⟨rfl, HB1.out⟩
  | false =>
  cases c6 : decide (ex > 6) with
  | true =>
    go_enter Tryz.func3, Tryz.ntmps3
    go_wp2_with (first
      | (go_at_call 4; refine (awake17_any w).mono ?_; rintro e w1 ⟨rfl, b1⟩; have HB1 := Lib.hid b1; clear b1)
      | fail)
    go_ret
    exact ⟨rfl, HB1.out⟩
  | false =>
  have hn1 : 1 ≤ n := by have := of_decide_eq_false c1; omega
  have hn3 : n ≤ 3 := by have := of_decide_eq_false c2; omega
  have hm6 : m ≤ 6 := by have := of_decide_eq_false c3; omega
  have hp12 : p ≤ 12 := by have := of_decide_eq_false c4; omega
  have HP12 : Hid (p ≤ 12) := Lib.hid hp12
  have HEX : Hid (0 ≤ ex) := Lib.hid (by have := of_decide_eq_false c5; omega)
  have HNE : Hid (ws ≠ []) := Lib.hid (fun e => by have h9 := HL.out; rw [e] at h9; simp at h9; omega)
  go_enter Tryz.func3, Tryz.ntmps3
  go_wp2_with (first
    | (go_at_call 4; refine (awake17_any w).mono ?_; rintro e w1 ⟨rfl, b1⟩; have HB1 := Lib.hid b1; clear b1)
    | ((with_reducible show wpList _ _ _ (⟨some 54, _, _, _, _, _⟩ :: _) _ _); refine wpList_bslice _ rfl 26 29 0 _ rfl #[] (by rw [List.map_toArray]; rfl) [] (bslW0 _) ?_; intro w2 a1 a2 a3; have HO2 : Hid (OwnC (fun x => wtL x) 4 29 w2 w.heap.size (.slice (some ⟨w1.heap.size, 0, none⟩) 0 0) []) := Lib.hid (OwnC.nil' a1 HB1.out.size); have HB2 := Lib.hid (below_then HB1.out a2); clear a1 a2 a3)
    | ((with_reducible show wpList _ _ _ (⟨some 55, _, _, _, _, _⟩ :: _) _ _); refine wpList_bslice _ rfl 27 32 0 _ rfl #[] (by rw [List.map_toArray]; rfl) [] (bslH0 _) ?_; intro w3 a1 a2 a3; have HP3 : Hid (OwnC (fun x => hdL x) 3 32 w3 w.heap.size (.slice (some ⟨w2.heap.size, 0, none⟩) 0 0) []) := Lib.hid (OwnC.nil' a1 HB2.out.size); have HB3 := Lib.hid (below_then HB2.out a2); have HO3 := Lib.hid (HO2.out.kept a2); clear a1 a2 a3))
  obtain ⟨gz, hgz⟩ : ∃ z, z = w2.heap.size := ⟨_, rfl⟩
  rw [← hgz] at HP3 ⊢
  clear hgz
  go_loopw [9, 11] (fun v iv wr => ∃ k : Nat, k ≤ n ∧ iv = .int .i64 (k : Int) ∧ Hid (OwnC (fun x => wtL x) 4 29 wr w.heap.size v (ws.take k)) ∧ Hid (OwnC (fun x => hdL x) 3 32 wr w.heap.size (.slice (some ⟨gz, 0, none⟩) 0 0) []) ∧ Hid (Below w.heap.size w wr)) (fun _ iv _ => n - (intOf iv).toNat)
  case atStart => exact ⟨0, by omega, rfl, HO3, HP3, HB3⟩
  case round =>
    obtain ⟨k1, hk, rfl, ho, hp, hb⟩ := hrel
    obtain ⟨wx, hwx⟩ : ∃ x, x = wr := ⟨_, rfl⟩
    rw [← hwx] at ho hp hb ⊢
    clear hwx
    by_cases hlt : k1 < n
    · obtain ⟨x, g, o, cs, hs9, ea, hat, hr⟩ := H.out.at_ stay_wt hb.out hlt
      obtain ⟨rfl, _⟩ := hr
      subst ea
      have HA := Lib.hid hat
      have HTL : Hid ((ws.take k1).length = k1) := Lib.hid (by rw [List.length_take, HL.out]; omega)
      have HN : Hid (ws.take (k1 + 1) = ws.take k1 ++ [x]) := Lib.hid (take_next hs9)
      clear hs9 hat
      go_wp2_with (first
        | ((with_reducible show wpList _ _ _ (⟨some 66, _, _, _, _, _⟩ :: _) _ _); refine wpList_loadv _ rfl 30 (.tmp 65) rfl 4 (by kernel_rfl) g (o + k1 * 4) (wtL x) (by go_simp) HA.out rfl ?_)
        | ((with_reducible show wpList _ _ _ (⟨some 67, _, _, _, _, _⟩ :: _) _ _); refine wpList_bslice _ rfl 26 29 1 _ rfl #[(0, .agg (wtL x).toArray)] (by rw [List.map_toArray]; rfl) (wtL x) (bslW1 x _) ?_; intro w6 a1 a2 a3; have HG6 := Lib.hid a1; have HX6 := Lib.hid a2; clear a1 a2 a3)
        | ((with_reducible show wpList _ _ _ (⟨some 68, _, _, _, _, _⟩ :: _) _ _); obtain ⟨iS, i1, i2, i3, i4⟩ := info_some infoWt; refine wpList_appRW _ rfl (.tmp 62) (.tmp 67) 26 29 4 iS _ rfl Tryz.underlying26 i1 i2 i3 rfl _ _ _ rfl (ho.out.kept HX6.out).1 wx.heap.size (wtL x) rfl HG6.out rfl (one_wt x) (by rw [i4, HTL.out]; omega) (by rw [HTL.out]; omega) ?_; intro v' w7 ap; have HO7 := Lib.hid ((ho.out.kept HX6.out).push ap (Nat.le_trans hb.out.size HX6.out.size)); have HP7 := Lib.hid ((hp.out.kept HX6.out).kp ap.kp (RW.ne_rw (hp.out.kept HX6.out).1 (ho.out.kept HX6.out).1 (by decide))); have HB7 : Hid (Below w.heap.size w w7) := Lib.hid (low_kp (below_then hb.out HX6.out) ap.kp (fun i hi e => by have := ho.out.2 i e; omega)); clear ap i1 i2 i3 i4))
      go_roundw
      case rel => exact ⟨k1 + 1, by omega, by go_num, by rw [HN.out]; exact HO7, HP7, HB7⟩
      case measure => simp [intOf]; omega
    · obtain rfl : k1 = n := by omega
      rw [take_end HL.out] at ho
      obtain ⟨Aw, cw, ev, _⟩ := ho.out.1.form
      rw [HL.out] at ev
      subst ev
      clear hlt
      go_wp2_with fail
      go_loopw [10, 12] (fun v iv wr => ∃ k : Nat, k ≤ m ∧ iv = .int .i64 (k : Int) ∧ Hid (OwnC (fun x => hdL x) 3 32 wr w.heap.size v (hs.take k)) ∧ Hid (OwnC (fun x => wtL x) 4 29 wr w.heap.size (.slice Aw k1 cw) ws) ∧ Hid (Below w.heap.size w wr)) (fun _ iv _ => m - (intOf iv).toNat)
      case atStart => exact ⟨0, by omega, rfl, hp, ho, hb⟩
      case round =>
        obtain ⟨k2, hk, rfl, ho, hp, hb⟩ := hrel
        obtain ⟨wx, hwx⟩ : ∃ x, x = wr := ⟨_, rfl⟩
        rw [← hwx] at ho hp hb ⊢
        clear hwx
        by_cases hlt : k2 < m
        · obtain ⟨x, g, o, cs, hs9, ea, hat, hr⟩ := HH.out.at_ stay_hd hb.out hlt
          obtain ⟨rfl, _⟩ := hr
          subst ea
          have HA := Lib.hid hat
          have HTL : Hid ((hs.take k2).length = k2) := Lib.hid (by rw [List.length_take, HHL.out]; omega)
          have HN : Hid (hs.take (k2 + 1) = hs.take k2 ++ [x]) := Lib.hid (take_next hs9)
          clear hs9 hat
          go_wp2_with (first
            | ((with_reducible show wpList _ _ _ (⟨some 79, _, _, _, _, _⟩ :: _) _ _); refine wpList_loadv _ rfl 33 (.tmp 78) rfl 3 (by kernel_rfl) g (o + k2 * 3) (hdL x) (by go_simp) HA.out rfl ?_)
            | ((with_reducible show wpList _ _ _ (⟨some 80, _, _, _, _, _⟩ :: _) _ _); refine wpList_bslice _ rfl 27 32 1 _ rfl #[(0, .agg (hdL x).toArray)] (by rw [List.map_toArray]; rfl) (hdL x) (bslH1 x _) ?_; intro w6 a1 a2 a3; have HG6 := Lib.hid a1; have HX6 := Lib.hid a2; clear a1 a2 a3)
            | ((with_reducible show wpList _ _ _ (⟨some 81, _, _, _, _, _⟩ :: _) _ _); obtain ⟨iS, i1, i2, i3, i4⟩ := info_some infoHd; refine wpList_appRW _ rfl (.tmp 75) (.tmp 80) 27 32 3 iS _ rfl Tryz.underlying27 i1 i2 i3 rfl _ _ _ rfl (ho.out.kept HX6.out).1 wx.heap.size (hdL x) rfl HG6.out rfl (one_hd x) (by rw [i4, HTL.out]; omega) (by rw [HTL.out]; omega) ?_; intro v' w7 ap; have HO7 := Lib.hid ((ho.out.kept HX6.out).push ap (Nat.le_trans hb.out.size HX6.out.size)); have HP7 := Lib.hid ((hp.out.kept HX6.out).kp ap.kp (RW.ne_rw (hp.out.kept HX6.out).1 (ho.out.kept HX6.out).1 (by decide))); have HB7 : Hid (Below w.heap.size w w7) := Lib.hid (low_kp (below_then hb.out HX6.out) ap.kp (fun i hi e => by have := ho.out.2 i e; omega)); clear ap i1 i2 i3 i4))
          go_roundw
          case rel => exact ⟨k2 + 1, by omega, by go_num, by rw [HN.out]; exact HO7, HP7, HB7⟩
          case measure => simp [intOf]; omega
        · obtain rfl : k2 = m := by omega
          rw [take_end HHL.out] at ho
          obtain ⟨Ah, ch, ev, hls⟩ := ho.out.ls (R := rHd) (b := 24) hdL_len' (fun x hx => ⟨rfl, HOH.out x hx⟩) (by rw [HHL.out]; unfold lim; omega)
          rw [HHL.out] at ev hls
          subst ev
          obtain ⟨Aw', cw', ev, hls2⟩ := hp.out.ls (R := rWt) (b := 40) wtL_len (fun x hx => ⟨rfl, HOW.out x hx⟩) (by rw [HL.out]; unfold lim; omega)
          rw [HL.out] at ev hls2
          cases ev
          have HLD := Lib.hid hls
          have HLW := Lib.hid hls2
          have HBy := hb
          obtain ⟨wy, hwy⟩ : ∃ z, z = wx := ⟨_, rfl⟩
          rw [← hwy] at HLD HLW HBy ⊢
          clear hlt hls hls2 ho hp hb hwy
          obtain ⟨XV, hXV⟩ : ∃ z, z = assignV ws hs [] 20000 := ⟨_, rfl⟩
          by_cases hE : XV.2 = 0
          · have hok := assign_ok (ws := ws) (hs := hs) (b := 20000) (by rw [← hXV]; exact hE)
            rw [← hXV] at hok
            obtain ⟨PV, hPV⟩ : ∃ z, z = possV ws hs ex 20000 := ⟨_, rfl⟩
            have hpo : PV.2 = 0 → PV.1 = decide (ex ≤ leastI ws XV.1) := fun h9 => by
              have h8 := poss_ok (b := 20000) HEX.out HNE.out (by rw [← hPV]; exact h9) (by rw [← hXV]; exact hE)
              rw [← hPV, ← hXV] at h8
              exact h8
            obtain ⟨XL, XE⟩ := XV
            obtain ⟨PB, PE⟩ := PV
            have hE' : XE = 0 := hE
            subst hE'
            have HX : Hid (assignV ws hs [] 20000 = (XL, 0)) := Lib.hid hXV.symm
            have HPV : Hid (possV ws hs ex 20000 = (PB, PE)) := Lib.hid hPV.symm
            have hok' : Ok ws hs XL := hok
            obtain ⟨LL, hLL⟩ : ∃ z, z = leastI ws XL := ⟨_, rfl⟩
            have HLE : Hid (leastE ws XL = (LL, 0)) := Lib.hid (by rw [least_ok hok' HNE.out, ← hLL])
            obtain ⟨XM9, hXM9⟩ : ∃ z, z = max (-1 : Int) LL := ⟨_, rfl⟩
            have HWO : Hid (worstI (hoL ws XL) = XM9) := Lib.hid (by rw [worst_eq hok' HNE.out, ← hLL, hXM9])
            have hmx : max (-1 : Int) LL = XM9 := hXM9.symm
            have HDV := Lib.hid (devs_12 hok')
            have HHO := Lib.hid (hoL_ok hok')
            obtain ⟨sb, hsb⟩ : ∃ b, b = decide (0 ≤ LL) := ⟨_, rfl⟩
            obtain ⟨RR, hRR⟩ : ∃ z, z = someL LL [] S := ⟨_, rfl⟩
            have HRR := Lib.hid hRR
            have HALL : Hid ((hoL ws XL).all (survB RR) = sb) := Lib.hid (by rw [hRR, hsb, hLL]; exact survives_iff hok' S)
            have s1 : decide (LL ≥ 0) = sb := hsb.symm
            have s2 : decide (0 ≤ LL) = sb := hsb.symm
            have s3 : (sb == sb) = true := beq_self_eq_true sb
            have g7 : (XM9 != XM9) = false := by rw [bne_self_eq_false]
            have hpo' : PE = 0 → PB = decide (ex ≤ LL) := by rw [hLL]; exact hpo
            clear hXV hPV hok hok' hpo hLL hXM9 hsb hRR hE
            by_cases hp0 : PE = 0
            · have e9 := hpo' hp0
              have p1 : decide (LL ≥ ex) = PB := e9.symm
              have p2 : decide (ex ≤ LL) = PB := e9.symm
              have p3 : (PB != PB) = false := by rw [bne_self_eq_false]
              have p4 : (PE == 0) = true := by rw [beq_iff_eq]; exact hp0
              clear e9 hpo' hp0
              go_wp2_with (first
                | (go_at_call 5; refine (assign_any Aw k1 cw ws Ah k2 ch hs none 0 0 [] 20000 wy HLW.out HLD.out LS.nil (by decide)).mono ?_; rintro e9 wa ⟨A1, n1, c1, rfl, r1, r2⟩; rw [HX.out] at r1 ⊢;  have HX1 := Lib.hid r1; have HBa := Lib.hid (below_then HBy.out r2); have HCa := Lib.hid r2; clear r1 r2)
                | (go_at_call 6; refine (least_any Aw k1 cw ws A1 n1 c1 XL wa (HLW.out.kept stay_wt HCa.out) HX1.out).mono ?_; rintro e9 wb ⟨rfl, r2⟩; rw [HLE.out]; have HBb := Lib.hid (below_then HBa.out r2); have HCb := Lib.hid (below_then HCa.out r2); have HX2 := Lib.hid (HX1.out.kept stay_pl r2); clear r2)
                | (go_at_call 7; refine (holdings_any Aw k1 cw ws A1 n1 c1 XL wb (HLW.out.kept stay_wt HCb.out) HX2.out (by omega) HDV.out).mono ?_; rintro e9 wg ⟨Ag, cg, rfl, r1, r2⟩; have HLG := Lib.hid r1; have HBg := Lib.hid (below_then HBb.out r2); have HCg := Lib.hid (below_then HCb.out r2); clear r1 r2)
                | (go_at_call 8; refine (Worst_any Ag k1 cg _ wg HLG.out HHO.out (by omega)).mono ?_; rintro e9 wh ⟨rfl, r2⟩; rw [HWO.out]; have HBh := Lib.hid (below_then HBg.out r2); have HCh := Lib.hid (below_then HCg.out r2); have HLH2 := Lib.hid (HLG.out.kept stay_ho r2); clear r2)
                | (go_at_call 9; refine (scheck_any Ag k1 cg _ wh HLH2.out HHO.out (by omega)).mono ?_; rintro e9 wi ⟨rfl, r2⟩; have HBi := Lib.hid (below_then HBh.out r2); have HCi := Lib.hid (below_then HCh.out r2); have HLH3 := Lib.hid (HLH2.out.kept stay_ho r2); clear r2)
                | (go_at_call 10; refine (possible_any Aw k1 cw ws Ah k2 ch hs ex 20000 wi (HLW.out.kept stay_wt HCi.out) (HLD.out.kept stay_hd HCi.out)).mono ?_; rintro e9 wj ⟨rfl, r2⟩; rw [HPV.out]; have HBj := Lib.hid (below_then HBi.out r2); have HLH := Lib.hid (HLH3.out.kept stay_ho r2); clear r2)
                | ((with_reducible show wpList _ _ _ (⟨some 140, _, _, _, _, _⟩ :: _) _ _); refine wpList_bslice _ rfl 24 3 0 _ rfl #[] (by rw [List.map_toArray]; rfl) [] (bslI0 _) ?_; intro wk a1 a2 a3; have HOk : Hid (OwnI wk wj.heap.size (.slice (some ⟨wj.heap.size, 0, none⟩) 0 0) []) := Lib.hid ⟨RW.of_blk a1 (by simp [iL]) (by decide), fun b hb => by cases hb; exact Nat.le_refl _⟩; have HCk : Hid (Below wj.heap.size wj wk) := Lib.hid a2; clear a1 a2 a3))
              clear hmx g7 HWO HLE
              go_loopw [22, 23] (fun v iv wr => ∃ (k : Nat) (OUT : List Int), k ≤ p ∧ iv = .int .i64 (k : Int) ∧ Hid (OwnI wr wj.heap.size v OUT) ∧ Hid (OUT.length ≤ k) ∧ Hid (∀ d ∈ OUT, 0 ≤ d ∧ d < 12) ∧ Hid (someL LL OUT (S.drop k) = RR) ∧ Hid (Below wj.heap.size wj wr)) (fun _ iv _ => p - (intOf iv).toNat)
              case atStart => exact ⟨0, [], by omega, rfl, HOk, Lib.hid (Nat.le_refl _), Lib.hid (fun d hd => by cases hd), Lib.hid (by rw [HRR.out]; rfl), HCk⟩
              case round =>
                obtain ⟨k, OUT, hk, rfl, ho, hol, hov, hso, hc⟩ := hrel
                obtain ⟨wx, hwx⟩ : ∃ x, x = wr := ⟨_, rfl⟩
                rw [← hwx] at ho hc ⊢
                clear hwx
                obtain ⟨VA, vc, ev, _⟩ := ho.out.1.form
                obtain ⟨NO, hNO⟩ : ∃ z, z = OUT.length := ⟨_, rfl⟩
                rw [← hNO] at ev
                subst ev
                have HNO := Lib.hid hNO
                clear hNO
                by_cases hlt : k < p
                · obtain ⟨x, gx, ox, hx, ea, hcx⟩ := HS.out.int_at (below_then HBj.out hc.out) hlt
                  have HDR := Lib.hid (drop_at hx)
                  subst ea
                  clear hx
                  cases u1 : decide ((NO : Int) < LL) with
                  | true =>
                    have HST : Hid (someL LL OUT (S.drop k) = someL LL (if 0 ≤ x ∧ x < 12 then OUT ++ [x] else OUT) (S.drop (k + 1))) := Lib.hid (by
                      rw [HDR.out, someL, if_pos (by rw [← HNO.out]; exact of_decide_eq_true u1)])
                    cases x1 : decide (x ≥ 0) with
                    | true =>
                      have x2 : decide (0 ≤ x) = true := x1
                      cases x3 : decide (x < 12) with
                      | true =>
                        have HSO : Hid (someL LL (OUT ++ [x]) (S.drop (k + 1)) = RR) := Lib.hid (by
                          rw [← hso.out, HST.out, if_pos ⟨of_decide_eq_true x2, of_decide_eq_true x3⟩])
                        have HOV : Hid (∀ d ∈ OUT ++ [x], 0 ≤ d ∧ d < 12) := Lib.hid (fun d hd => by
                          rcases List.mem_append.1 hd with h9 | h9
                          · exact hov.out d h9
                          · rw [List.mem_singleton.1 h9]; exact ⟨of_decide_eq_true x2, of_decide_eq_true x3⟩)
                        go_wp2_with (first
                          | ((with_reducible show wpList _ _ _ (⟨some 170, _, _, _, _, _⟩ :: _) _ _); refine wpList_bslice _ rfl 24 3 1 _ rfl #[(0, .int .i64 x)] (by rw [List.map_toArray]; rfl) [.int .i64 x] (bslI _ _) ?_; intro w6 a1 a2 a3; have HG6 := Lib.hid a1; have HX6 : Hid (Below wx.heap.size wx w6) := Lib.hid a2; clear a1 a2 a3)
                          | ((with_reducible show wpList _ _ _ (⟨some 171, _, _, _, _, _⟩ :: _) _ _); refine wpList_pushI rfl (.tmp 165) (.tmp 170) rfl wj.heap.size _ _ rfl (ho.out.kept HX6.out) (by have := hc.out.size; have := HX6.out.size; omega) wx.heap.size x rfl HG6.out (by have := hol.out; have := HP12.out; omega) ?_; intro v' w7 a1 a2; have HO7 := Lib.hid a1; have HC7 : Hid (Below wj.heap.size wj w7) := Lib.hid (low_kp (below_then hc.out HX6.out) a2.kp (fun i hi e => by have := ho.out.2 i e; omega)); clear a1 a2))
                        go_roundw
                        case rel => exact ⟨k + 1, OUT ++ [x], by omega, by go_num, HO7, Lib.hid (by rw [List.length_append, List.length_singleton]; have := hol.out; omega), HOV, HSO, HC7⟩
                        case measure => simp [intOf]; omega
                      | false =>
                        have HSO : Hid (someL LL OUT (S.drop (k + 1)) = RR) := Lib.hid (by
                          rw [← hso.out, HST.out, if_neg (fun h9 => (of_decide_eq_false x3) h9.2)])
                        go_wp2_with fail
                        go_roundw
                        case rel => exact ⟨k + 1, OUT, by omega, by go_num, ho, Lib.hid (by have := hol.out; omega), hov, HSO, hc⟩
                        case measure => simp [intOf]; omega
                    | false =>
                      have x2 : decide (0 ≤ x) = false := x1
                      have HSO : Hid (someL LL OUT (S.drop (k + 1)) = RR) := Lib.hid (by
                        rw [← hso.out, HST.out, if_neg (fun h9 => (of_decide_eq_false x2) h9.1)])
                      go_wp2_with fail
                      go_roundw
                      case rel => exact ⟨k + 1, OUT, by omega, by go_num, ho, Lib.hid (by have := hol.out; omega), hov, HSO, hc⟩
                      case measure => simp [intOf]; omega
                  | false =>
                    have HRO : Hid (OUT = RR) := Lib.hid (by
                      rw [← hso.out, HDR.out, someL, if_neg (by rw [← HNO.out]; exact of_decide_eq_false u1)])
                    have HSV : Hid ((hoL ws XL).all (survB OUT) = sb) := Lib.hid (by rw [HRO.out]; exact HALL.out)
                    have HRS : Hid (LS rInt 1 8 wx VA NO vc OUT) := Lib.hid (by
                      have h9 := ho.out.1
                      rw [← HNO.out] at h9
                      exact ints_ls h9 HNO.out.symm (fun d hd => by have h8 := hov.out d hd; exact wfI_of (by omega) (by omega)) (by unfold lim; have := hol.out; have := HP12.out; have := HNO.out; omega))
                    go_wp2_with (first
                      | (go_at_call 11; refine (survs_any Ag k1 cg _ VA NO vc OUT wx (HLH.out.kept stay_ho hc.out) HHO.out (by omega) HRS.out hov.out).mono ?_; rintro e9 wf ⟨rfl, r2⟩; rw [HSV.out]; have HBf := Lib.hid (below_then (below_then HBj.out hc.out) r2); clear r2))
                    go_ret
                    exact ⟨rfl, HBf.out⟩
                · obtain rfl : k = p := by omega
                  have HRO : Hid (OUT = RR) := Lib.hid (by
                    rw [← hso.out, List.drop_eq_nil_of_le (by rw [HSL.out]; exact Nat.le_refl _)]; rfl)
                  have HSV : Hid ((hoL ws XL).all (survB OUT) = sb) := Lib.hid (by rw [HRO.out]; exact HALL.out)
                  have HRS : Hid (LS rInt 1 8 wx VA NO vc OUT) := Lib.hid (by
                    have h9 := ho.out.1
                    rw [← HNO.out] at h9
                    exact ints_ls h9 HNO.out.symm (fun d hd => by have h8 := hov.out d hd; exact wfI_of (by omega) (by omega)) (by unfold lim; have := hol.out; have := HP12.out; have := HNO.out; omega))
                  go_wp2_with (first
                    | (go_at_call 11; refine (survs_any Ag k1 cg _ VA NO vc OUT wx (HLH.out.kept stay_ho hc.out) HHO.out (by omega) HRS.out hov.out).mono ?_; rintro e9 wf ⟨rfl, r2⟩; rw [HSV.out]; have HBf := Lib.hid (below_then (below_then HBj.out hc.out) r2); clear r2))
                  go_ret
                  exact ⟨rfl, HBf.out⟩
            · have p4 : (PE == 0) = false := by rw [beq_eq_false_iff_ne]; exact hp0
              clear hpo' hp0
              go_wp2_with (first
                | (go_at_call 5; refine (assign_any Aw k1 cw ws Ah k2 ch hs none 0 0 [] 20000 wy HLW.out HLD.out LS.nil (by decide)).mono ?_; rintro e9 wa ⟨A1, n1, c1, rfl, r1, r2⟩; rw [HX.out] at r1 ⊢;  have HX1 := Lib.hid r1; have HBa := Lib.hid (below_then HBy.out r2); have HCa := Lib.hid r2; clear r1 r2)
                | (go_at_call 6; refine (least_any Aw k1 cw ws A1 n1 c1 XL wa (HLW.out.kept stay_wt HCa.out) HX1.out).mono ?_; rintro e9 wb ⟨rfl, r2⟩; rw [HLE.out]; have HBb := Lib.hid (below_then HBa.out r2); have HCb := Lib.hid (below_then HCa.out r2); have HX2 := Lib.hid (HX1.out.kept stay_pl r2); clear r2)
                | (go_at_call 7; refine (holdings_any Aw k1 cw ws A1 n1 c1 XL wb (HLW.out.kept stay_wt HCb.out) HX2.out (by omega) HDV.out).mono ?_; rintro e9 wg ⟨Ag, cg, rfl, r1, r2⟩; have HLG := Lib.hid r1; have HBg := Lib.hid (below_then HBb.out r2); have HCg := Lib.hid (below_then HCb.out r2); clear r1 r2)
                | (go_at_call 8; refine (Worst_any Ag k1 cg _ wg HLG.out HHO.out (by omega)).mono ?_; rintro e9 wh ⟨rfl, r2⟩; rw [HWO.out]; have HBh := Lib.hid (below_then HBg.out r2); have HCh := Lib.hid (below_then HCg.out r2); have HLH2 := Lib.hid (HLG.out.kept stay_ho r2); clear r2)
                | (go_at_call 9; refine (scheck_any Ag k1 cg _ wh HLH2.out HHO.out (by omega)).mono ?_; rintro e9 wi ⟨rfl, r2⟩; have HBi := Lib.hid (below_then HBh.out r2); have HCi := Lib.hid (below_then HCh.out r2); have HLH3 := Lib.hid (HLH2.out.kept stay_ho r2); clear r2)
                | (go_at_call 10; refine (possible_any Aw k1 cw ws Ah k2 ch hs ex 20000 wi (HLW.out.kept stay_wt HCi.out) (HLD.out.kept stay_hd HCi.out)).mono ?_; rintro e9 wj ⟨rfl, r2⟩; rw [HPV.out]; have HBj := Lib.hid (below_then HBi.out r2); have HLH := Lib.hid (HLH3.out.kept stay_ho r2); clear r2)
                | ((with_reducible show wpList _ _ _ (⟨some 140, _, _, _, _, _⟩ :: _) _ _); refine wpList_bslice _ rfl 24 3 0 _ rfl #[] (by rw [List.map_toArray]; rfl) [] (bslI0 _) ?_; intro wk a1 a2 a3; have HOk : Hid (OwnI wk wj.heap.size (.slice (some ⟨wj.heap.size, 0, none⟩) 0 0) []) := Lib.hid ⟨RW.of_blk a1 (by simp [iL]) (by decide), fun b hb => by cases hb; exact Nat.le_refl _⟩; have HCk : Hid (Below wj.heap.size wj wk) := Lib.hid a2; clear a1 a2 a3))
              clear hmx g7 HWO HLE
              go_loopw [22, 23] (fun v iv wr => ∃ (k : Nat) (OUT : List Int), k ≤ p ∧ iv = .int .i64 (k : Int) ∧ Hid (OwnI wr wj.heap.size v OUT) ∧ Hid (OUT.length ≤ k) ∧ Hid (∀ d ∈ OUT, 0 ≤ d ∧ d < 12) ∧ Hid (someL LL OUT (S.drop k) = RR) ∧ Hid (Below wj.heap.size wj wr)) (fun _ iv _ => p - (intOf iv).toNat)
              case atStart => exact ⟨0, [], by omega, rfl, HOk, Lib.hid (Nat.le_refl _), Lib.hid (fun d hd => by cases hd), Lib.hid (by rw [HRR.out]; rfl), HCk⟩
              case round =>
                obtain ⟨k, OUT, hk, rfl, ho, hol, hov, hso, hc⟩ := hrel
                obtain ⟨wx, hwx⟩ : ∃ x, x = wr := ⟨_, rfl⟩
                rw [← hwx] at ho hc ⊢
                clear hwx
                obtain ⟨VA, vc, ev, _⟩ := ho.out.1.form
                obtain ⟨NO, hNO⟩ : ∃ z, z = OUT.length := ⟨_, rfl⟩
                rw [← hNO] at ev
                subst ev
                have HNO := Lib.hid hNO
                clear hNO
                by_cases hlt : k < p
                · obtain ⟨x, gx, ox, hx, ea, hcx⟩ := HS.out.int_at (below_then HBj.out hc.out) hlt
                  have HDR := Lib.hid (drop_at hx)
                  subst ea
                  clear hx
                  cases u1 : decide ((NO : Int) < LL) with
                  | true =>
                    have HST : Hid (someL LL OUT (S.drop k) = someL LL (if 0 ≤ x ∧ x < 12 then OUT ++ [x] else OUT) (S.drop (k + 1))) := Lib.hid (by
                      rw [HDR.out, someL, if_pos (by rw [← HNO.out]; exact of_decide_eq_true u1)])
                    cases x1 : decide (x ≥ 0) with
                    | true =>
                      have x2 : decide (0 ≤ x) = true := x1
                      cases x3 : decide (x < 12) with
                      | true =>
                        have HSO : Hid (someL LL (OUT ++ [x]) (S.drop (k + 1)) = RR) := Lib.hid (by
                          rw [← hso.out, HST.out, if_pos ⟨of_decide_eq_true x2, of_decide_eq_true x3⟩])
                        have HOV : Hid (∀ d ∈ OUT ++ [x], 0 ≤ d ∧ d < 12) := Lib.hid (fun d hd => by
                          rcases List.mem_append.1 hd with h9 | h9
                          · exact hov.out d h9
                          · rw [List.mem_singleton.1 h9]; exact ⟨of_decide_eq_true x2, of_decide_eq_true x3⟩)
                        go_wp2_with (first
                          | ((with_reducible show wpList _ _ _ (⟨some 170, _, _, _, _, _⟩ :: _) _ _); refine wpList_bslice _ rfl 24 3 1 _ rfl #[(0, .int .i64 x)] (by rw [List.map_toArray]; rfl) [.int .i64 x] (bslI _ _) ?_; intro w6 a1 a2 a3; have HG6 := Lib.hid a1; have HX6 : Hid (Below wx.heap.size wx w6) := Lib.hid a2; clear a1 a2 a3)
                          | ((with_reducible show wpList _ _ _ (⟨some 171, _, _, _, _, _⟩ :: _) _ _); refine wpList_pushI rfl (.tmp 165) (.tmp 170) rfl wj.heap.size _ _ rfl (ho.out.kept HX6.out) (by have := hc.out.size; have := HX6.out.size; omega) wx.heap.size x rfl HG6.out (by have := hol.out; have := HP12.out; omega) ?_; intro v' w7 a1 a2; have HO7 := Lib.hid a1; have HC7 : Hid (Below wj.heap.size wj w7) := Lib.hid (low_kp (below_then hc.out HX6.out) a2.kp (fun i hi e => by have := ho.out.2 i e; omega)); clear a1 a2))
                        go_roundw
                        case rel => exact ⟨k + 1, OUT ++ [x], by omega, by go_num, HO7, Lib.hid (by rw [List.length_append, List.length_singleton]; have := hol.out; omega), HOV, HSO, HC7⟩
                        case measure => simp [intOf]; omega
                      | false =>
                        have HSO : Hid (someL LL OUT (S.drop (k + 1)) = RR) := Lib.hid (by
                          rw [← hso.out, HST.out, if_neg (fun h9 => (of_decide_eq_false x3) h9.2)])
                        go_wp2_with fail
                        go_roundw
                        case rel => exact ⟨k + 1, OUT, by omega, by go_num, ho, Lib.hid (by have := hol.out; omega), hov, HSO, hc⟩
                        case measure => simp [intOf]; omega
                    | false =>
                      have x2 : decide (0 ≤ x) = false := x1
                      have HSO : Hid (someL LL OUT (S.drop (k + 1)) = RR) := Lib.hid (by
                        rw [← hso.out, HST.out, if_neg (fun h9 => (of_decide_eq_false x2) h9.1)])
                      go_wp2_with fail
                      go_roundw
                      case rel => exact ⟨k + 1, OUT, by omega, by go_num, ho, Lib.hid (by have := hol.out; omega), hov, HSO, hc⟩
                      case measure => simp [intOf]; omega
                  | false =>
                    have HRO : Hid (OUT = RR) := Lib.hid (by
                      rw [← hso.out, HDR.out, someL, if_neg (by rw [← HNO.out]; exact of_decide_eq_false u1)])
                    have HSV : Hid ((hoL ws XL).all (survB OUT) = sb) := Lib.hid (by rw [HRO.out]; exact HALL.out)
                    have HRS : Hid (LS rInt 1 8 wx VA NO vc OUT) := Lib.hid (by
                      have h9 := ho.out.1
                      rw [← HNO.out] at h9
                      exact ints_ls h9 HNO.out.symm (fun d hd => by have h8 := hov.out d hd; exact wfI_of (by omega) (by omega)) (by unfold lim; have := hol.out; have := HP12.out; have := HNO.out; omega))
                    go_wp2_with (first
                      | (go_at_call 11; refine (survs_any Ag k1 cg _ VA NO vc OUT wx (HLH.out.kept stay_ho hc.out) HHO.out (by omega) HRS.out hov.out).mono ?_; rintro e9 wf ⟨rfl, r2⟩; rw [HSV.out]; have HBf := Lib.hid (below_then (below_then HBj.out hc.out) r2); clear r2))
                    go_ret
                    exact ⟨rfl, HBf.out⟩
                · obtain rfl : k = p := by omega
                  have HRO : Hid (OUT = RR) := Lib.hid (by
                    rw [← hso.out, List.drop_eq_nil_of_le (by rw [HSL.out]; exact Nat.le_refl _)]; rfl)
                  have HSV : Hid ((hoL ws XL).all (survB OUT) = sb) := Lib.hid (by rw [HRO.out]; exact HALL.out)
                  have HRS : Hid (LS rInt 1 8 wx VA NO vc OUT) := Lib.hid (by
                    have h9 := ho.out.1
                    rw [← HNO.out] at h9
                    exact ints_ls h9 HNO.out.symm (fun d hd => by have h8 := hov.out d hd; exact wfI_of (by omega) (by omega)) (by unfold lim; have := hol.out; have := HP12.out; have := HNO.out; omega))
                  go_wp2_with (first
                    | (go_at_call 11; refine (survs_any Ag k1 cg _ VA NO vc OUT wx (HLH.out.kept stay_ho hc.out) HHO.out (by omega) HRS.out hov.out).mono ?_; rintro e9 wf ⟨rfl, r2⟩; rw [HSV.out]; have HBf := Lib.hid (below_then (below_then HBj.out hc.out) r2); clear r2))
                  go_ret
                  exact ⟨rfl, HBf.out⟩
          · have hnil := assign_err (ws := ws) (hs := hs) (ps := []) (b := 20000) (by rw [← hXV]; exact hE)
            rw [← hXV] at hnil
            obtain ⟨XL, XE⟩ := XV
            have hnil' : XL = [] := hnil
            subst hnil'
            have HX : Hid (assignV ws hs [] 20000 = ([], XE)) := Lib.hid hXV.symm
            have f3 : (XE != 0) = true := by rw [bne_iff_ne]; exact hE
            clear hXV hnil hE
            go_wp2_with (first
              | (go_at_call 5; refine (assign_any Aw k1 cw ws Ah k2 ch hs none 0 0 [] 20000 wy HLW.out HLD.out LS.nil (by decide)).mono ?_; rintro e9 wa ⟨A1, n1, c1, rfl, r1, r2⟩; rw [HX.out] at r1 ⊢; have hz := r1.1; cases hz; have HX1 := Lib.hid r1; have HBa := Lib.hid (below_then HBy.out r2); have HCa := Lib.hid r2; clear r1 r2)
              | fail)
            go_ret
            exact ⟨rfl, HBa.out⟩
end Go.Proofs.YtkghfeodmbffaaaGreat
/- Arguments of the types of TopSurvives opened. -/
namespace Go.Proofs.YtkghfeodmbffaaaGreat
open Go Go.ChangeShapes Go.WideShapes Go.ChangeAt Go.RowKit Gf Sha

theorem cc_str : Tryz.prog.cellsOf 9 = 1 := by kernel_rfl
theorem cc_int : Tryz.prog.cellsOf 3 = 1 := by kernel_rfl
theorem cc_pi : Tryz.prog.cellsOf 66 = 2 := by kernel_rfl
theorem fields_wt : ∃ f0 f1 f2 f3 : Field, Tryz.prog.underlying 30 = some (.struct #[f0, f1, f2, f3]) ∧ (f0.type = 9 ∧ f0.offset = 0) ∧ (f1.type = 3 ∧ f1.offset = 1) ∧ (f2.type = 3 ∧ f2.offset = 2) ∧ (f3.type = 3 ∧ f3.offset = 3) := ⟨_, _, _, _, Tryz.underlying30, ⟨rfl, rfl⟩, ⟨rfl, rfl⟩, ⟨rfl, rfl⟩, ⟨rfl, rfl⟩⟩
theorem cells_wt : Tryz.prog.cellsOf 30 = 4 := by kernel_rfl
set_option maxRecDepth 100000 in
theorem opens_wt {H : Type} {enc : TypeId × Value → H} {W : World} : Opens enc Tryz.prog W 30 rWt := fun cs d ps n h hw hl => by
  obtain ⟨f0, f1, f2, f3, hu, ⟨t0, o0⟩, ⟨t1, o1⟩, ⟨t2, o2⟩, ⟨t3, o3⟩⟩ := fields_wt
  rw [cells_wt] at hl
  match cs, hl with
  | [u0, u1, u2, u3], _ =>
    have h0 := struct_each hu h hw 0 f0 rfl (R := rStr) (by rw [t0]; exact opens_str Tryz.underlying9) (by rw [o0, t0, cc_str]; simp)
    have h1 := struct_each hu h hw 1 f1 rfl (R := rInt) (by rw [t1]; exact opens_int Tryz.underlying3) (by rw [o1, t1, cc_int]; simp)
    have h2 := struct_each hu h hw 2 f2 rfl (R := rInt) (by rw [t2]; exact opens_int Tryz.underlying3) (by rw [o2, t2, cc_int]; simp)
    have h3 := struct_each hu h hw 3 f3 rfl (R := rInt) (by rw [t3]; exact opens_int Tryz.underlying3) (by rw [o3, t3, cc_int]; simp)
    rw [t0, o0, cc_str] at h0
    rw [t1, o1, cc_int] at h1
    rw [t2, o2, cc_int] at h2
    rw [t3, o3, cc_int] at h3
    obtain ⟨x0, e0, g0⟩ := h0
    obtain ⟨x1, e1, g1⟩ := h1
    obtain ⟨x2, e2, g2⟩ := h2
    obtain ⟨x3, e3, g3⟩ := h3
    simp only [List.drop_zero, List.take_succ_cons, List.take_zero, List.cons.injEq, and_true, List.drop_succ_cons] at e0 e1 e2 e3
    exact ⟨⟨x0, x1, x2, x3⟩, by rw [e0, e1, e2, e3], g0, g1, g2, g3⟩
theorem fields_hd : ∃ f0 f1 f2 : Field, Tryz.prog.underlying 33 = some (.struct #[f0, f1, f2]) ∧ (f0.type = 3 ∧ f0.offset = 0) ∧ (f1.type = 3 ∧ f1.offset = 1) ∧ (f2.type = 3 ∧ f2.offset = 2) := ⟨_, _, _, Tryz.underlying33, ⟨rfl, rfl⟩, ⟨rfl, rfl⟩, ⟨rfl, rfl⟩⟩
theorem cells_hd : Tryz.prog.cellsOf 33 = 3 := by kernel_rfl
set_option maxRecDepth 100000 in
theorem opens_hd {H : Type} {enc : TypeId × Value → H} {W : World} : Opens enc Tryz.prog W 33 rHd := fun cs d ps n h hw hl => by
  obtain ⟨f0, f1, f2, hu, ⟨t0, o0⟩, ⟨t1, o1⟩, ⟨t2, o2⟩⟩ := fields_hd
  rw [cells_hd] at hl
  match cs, hl with
  | [u0, u1, u2], _ =>
    have h0 := struct_each hu h hw 0 f0 rfl (R := rInt) (by rw [t0]; exact opens_int Tryz.underlying3) (by rw [o0, t0, cc_int]; simp)
    have h1 := struct_each hu h hw 1 f1 rfl (R := rInt) (by rw [t1]; exact opens_int Tryz.underlying3) (by rw [o1, t1, cc_int]; simp)
    have h2 := struct_each hu h hw 2 f2 rfl (R := rInt) (by rw [t2]; exact opens_int Tryz.underlying3) (by rw [o2, t2, cc_int]; simp)
    rw [t0, o0, cc_int] at h0
    rw [t1, o1, cc_int] at h1
    rw [t2, o2, cc_int] at h2
    obtain ⟨x0, e0, g0⟩ := h0
    obtain ⟨x1, e1, g1⟩ := h1
    obtain ⟨x2, e2, g2⟩ := h2
    simp only [List.drop_zero, List.take_succ_cons, List.take_zero, List.cons.injEq, and_true, List.drop_succ_cons] at e0 e1 e2
    exact ⟨⟨x0, x1, x2⟩, by rw [e0, e1, e2], g0, g1, g2⟩
end Go.Proofs.YtkghfeodmbffaaaGreat
