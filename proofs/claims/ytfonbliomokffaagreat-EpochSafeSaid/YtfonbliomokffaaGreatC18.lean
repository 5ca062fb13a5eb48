/- Several texts in one: Rp, As. -/
import Derived.Test.YtfonbliomokffaaGreatC17
/- epoch.Reply. -/
namespace Go.Proofs.YtfonbliomokffaaGreat
open Go Go.RowKit Go.ChangeMaps Gf Sha

theorem wpList_makeGs {κ : Type} {P : Program} (w : World) {ops : Array Oper} {rest : List Oper} {o : Oper} {a : Act} {Q : Exit → Act → World → Prop} {enc : κ → Value} (hg : o.guard = none) (t k e : TypeId) (x : Operand) (hop : o.op = .makeMap t (some x)) (ht : P.underlying t = some (.map k e)) (n : Int) (hx : a.eval x = .int .i64 n) (z : Value)
    (h : ∀ w', MG P k enc z w' w.heap.size (fun _ => z) → Below w.heap.size w w' → w'.heap.size = w.heap.size + 1 → wpList P ops Q rest (a.put o.dst (.map (some w.heap.size))) w') : wpList P ops Q (o :: rest) a w :=
  wpList_plain hg fun _ hK' => by
    unfold Oper.wp execOp
    simp only [hop]
    simp [Instr.makeMap, hx, run_underlying ht, asInt, asIntOf, Result.andThen]
    exact hK' _ _ (h _ (MG.new (MF.new (MB.new P k w))) ((Below.refl _ _).alloc (Nat.le_refl _) _) (by simp))
theorem LS.str_mem {w : World} {A : Option Addr} {n c : Nat} {m : List (List UInt8)} (h : LS rStr 1 16 w A n c m) {x : List UInt8} (hx : x ∈ m) : x.length ≤ reachBytes := by
  obtain ⟨k, hk⟩ := List.mem_iff_getElem?.1 hx
  exact h.str_ok hk
theorem usC_in {x y : List UInt8} (h : usC x = usC y) : x = y := strB_inj (by injection h)
section
set_option maxRecDepth 100000
set_option maxHeartbeats 4000000
theorem idx_want (A : Option Addr) (n c : Nat) (L : List (List UInt8)) (p : List UInt8 → Bool) (pa : Value) (w : World) (hL : LS rStr 1 16 w A n c L)
    (hc : ∀ (w1 : World) (x : List UInt8), Below w.heap.size w w1 → x ∈ L → Calls Tryz.prog 73 #[.string (strB x), pa] w1 fun e w' => e = .returned (.bool (p x)) ∧ Below w1.heap.size w1 w') :
    Calls Tryz.prog 100 #[.slice A n c, .func (.func 73) #[] #[pa]] w fun e w' => ∃ r, e = .returned (.int .i64 r) ∧ idxP p L r ∧ Below w.heap.size w w' := by
  have hn := hL.len_le
  have H := Lib.hid hL
  have HL := Lib.hid hL.1
  have HC := Lib.hid hc
  clear hL hc
  go_enter Tryz.func100, Tryz.ntmps100
  go_wp2_with fail
  go_loopw [8] (fun iv wr => ∃ k : Nat, k ≤ n ∧ iv = .int .i64 (k : Int) ∧ Hid (∀ x ∈ L.take k, p x = false) ∧ Hid (Below w.heap.size w wr)) (fun iv _ => n - (intOf iv).toNat)
  case atStart => exact ⟨0, by omega, rfl, Lib.hid (fun x hx => by simp at hx), Lib.hid (Below.refl _ _)⟩
  case round =>
    obtain ⟨k, hk, rfl, hall, hb⟩ := hrel
    obtain ⟨wx, hwx⟩ : ∃ x, x = wr := ⟨_, rfl⟩
    rw [← hwx] at hb ⊢
    clear hwx
    by_cases hlt : k < n
    · obtain ⟨x, g, o, hs, ea, q0⟩ := H.out.str_at hb.out hlt
      have HX := Lib.hid hs
      have HCX := Lib.hid (HC.out wx x hb.out (mem_of hs))
      subst ea
      clear hs
      cases h1 : p x with
      | true =>
        go_wp2_with (first
          | (go_at_call 73; refine HCX.out.mono ?_; rintro e w2 ⟨rfl, bl⟩; rw [h1]; have HX2 := Lib.hid bl; clear bl))
        go_ret
        exact ⟨(k : Int), rfl, .inr ⟨k, x, rfl, HX.out, h1, hall.out⟩, below_thenB hb.out hb.out.size HX2.out⟩
      | false =>
        have HALL : Hid (∀ x ∈ L.take (k + 1), p x = false) := Lib.hid (fun y hy => by
          rw [take_next HX.out] at hy
          rcases List.mem_append.1 hy with h | h
          · exact hall.out y h
          · rw [List.mem_singleton.1 h]; exact h1)
        go_wp2_with (first
          | (go_at_call 73; refine HCX.out.mono ?_; rintro e w2 ⟨rfl, bl⟩; rw [h1]; have HX2 := Lib.hid bl; clear bl))
        go_roundw
        case rel => exact ⟨k + 1, by omega, by go_num, HALL, Lib.hid (below_thenB hb.out hb.out.size HX2.out)⟩
        case measure => simp [intOf]; omega
    · obtain rfl : k = n := by omega
      go_wp2_with fail
      go_ret
      exact ⟨-1, rfl, .inl ⟨rfl, fun x hx => hall.out x (by rw [take_end HL.out]; exact hx)⟩, hb.out⟩
theorem cont_want (A : Option Addr) (n c : Nat) (L : List (List UInt8)) (p : List UInt8 → Bool) (pa : Value) (w : World) (hL : LS rStr 1 16 w A n c L)
    (hc : ∀ (w1 : World) (x : List UInt8), Below w.heap.size w w1 → x ∈ L → Calls Tryz.prog 73 #[.string (strB x), pa] w1 fun e w' => e = .returned (.bool (p x)) ∧ Below w1.heap.size w1 w') :
    Calls Tryz.prog 72 #[.slice A n c, .func (.func 73) #[] #[pa]] w fun e w' => e = .returned (.bool (L.any p)) ∧ Below w.heap.size w w' := by
  have H := Lib.hid hL
  have HC := Lib.hid hc
  clear hL hc
  go_enter Tryz.func72, Tryz.ntmps72
  go_wp2_with (first
    | (go_at_call 100; refine (idx_want A n c L p pa w H.out HC.out).mono ?_; rintro e w1 ⟨r, rfl, h1, h2⟩; have HI := Lib.hid (idx_any h1); have HB := Lib.hid h2; clear h1 h2))
  go_ret
  exact ⟨by rw [← HI.out]; rfl, HB.out⟩
theorem idx_oth (A : Option Addr) (n c : Nat) (L : List (Int)) (p : Int → Bool) (pa : Value) (w : World) (hL : LS rInt 1 8 w A n c L)
    (hc : ∀ (w1 : World) (x : Int), Below w.heap.size w w1 → x ∈ L → Calls Tryz.prog 75 #[.int .i64 x, pa] w1 fun e w' => e = .returned (.bool (p x)) ∧ Below w1.heap.size w1 w') :
    Calls Tryz.prog 101 #[.slice A n c, .func (.func 75) #[] #[pa]] w fun e w' => ∃ r, e = .returned (.int .i64 r) ∧ idxP p L r ∧ Below w.heap.size w w' := by
  have hn := hL.len_le
  have H := Lib.hid hL
  have HL := Lib.hid hL.1
  have HC := Lib.hid hc
  clear hL hc
  go_enter Tryz.func101, Tryz.ntmps101
  go_wp2_with fail
  go_loopw [8] (fun iv wr => ∃ k : Nat, k ≤ n ∧ iv = .int .i64 (k : Int) ∧ Hid (∀ x ∈ L.take k, p x = false) ∧ Hid (Below w.heap.size w wr)) (fun iv _ => n - (intOf iv).toNat)
  case atStart => exact ⟨0, by omega, rfl, Lib.hid (fun x hx => by simp at hx), Lib.hid (Below.refl _ _)⟩
  case round =>
    obtain ⟨k, hk, rfl, hall, hb⟩ := hrel
    obtain ⟨wx, hwx⟩ : ∃ x, x = wr := ⟨_, rfl⟩
    rw [← hwx] at hb ⊢
    clear hwx
    by_cases hlt : k < n
    · obtain ⟨x, g, o, hs, ea, q0⟩ := H.out.int_at hb.out hlt
      have HX := Lib.hid hs
      have HCX := Lib.hid (HC.out wx x hb.out (mem_of hs))
      subst ea
      clear hs
      cases h1 : p x with
      | true =>
        go_wp2_with (first
          | (go_at_call 75; refine HCX.out.mono ?_; rintro e w2 ⟨rfl, bl⟩; rw [h1]; have HX2 := Lib.hid bl; clear bl))
        go_ret
        exact ⟨(k : Int), rfl, .inr ⟨k, x, rfl, HX.out, h1, hall.out⟩, below_thenB hb.out hb.out.size HX2.out⟩
      | false =>
        have HALL : Hid (∀ x ∈ L.take (k + 1), p x = false) := Lib.hid (fun y hy => by
          rw [take_next HX.out] at hy
          rcases List.mem_append.1 hy with h | h
          · exact hall.out y h
          · rw [List.mem_singleton.1 h]; exact h1)
        go_wp2_with (first
          | (go_at_call 75; refine HCX.out.mono ?_; rintro e w2 ⟨rfl, bl⟩; rw [h1]; have HX2 := Lib.hid bl; clear bl))
        go_roundw
        case rel => exact ⟨k + 1, by omega, by go_num, HALL, Lib.hid (below_thenB hb.out hb.out.size HX2.out)⟩
        case measure => simp [intOf]; omega
    · obtain rfl : k = n := by omega
      go_wp2_with fail
      go_ret
      exact ⟨-1, rfl, .inl ⟨rfl, fun x hx => hall.out x (by rw [take_end HL.out]; exact hx)⟩, hb.out⟩
theorem cont_oth (A : Option Addr) (n c : Nat) (L : List (Int)) (p : Int → Bool) (pa : Value) (w : World) (hL : LS rInt 1 8 w A n c L)
    (hc : ∀ (w1 : World) (x : Int), Below w.heap.size w w1 → x ∈ L → Calls Tryz.prog 75 #[.int .i64 x, pa] w1 fun e w' => e = .returned (.bool (p x)) ∧ Below w1.heap.size w1 w') :
    Calls Tryz.prog 74 #[.slice A n c, .func (.func 75) #[] #[pa]] w fun e w' => e = .returned (.bool (L.any p)) ∧ Below w.heap.size w w' := by
  have H := Lib.hid hL
  have HC := Lib.hid hc
  clear hL hc
  go_enter Tryz.func74, Tryz.ntmps74
  go_wp2_with (first
    | (go_at_call 101; refine (idx_oth A n c L p pa w H.out HC.out).mono ?_; rintro e w1 ⟨r, rfl, h1, h2⟩; have HI := Lib.hid (idx_any h1); have HB := Lib.hid h2; clear h1 h2))
  go_ret
  exact ⟨by rw [← HI.out]; rfl, HB.out⟩
theorem want_any (g bm : Nat) (S : List (List UInt8)) (x : List UInt8) (w : World) (hc : BL w g 118 [.map (some bm)]) (hm : MG Tryz.prog 9 usC (.bool false) w bm (fun y => .bool (hasB S y))) (hx : x.length ≤ reachBytes) :
    Calls Tryz.prog 73 #[.string (strB x), .pointer (some ⟨g, 0, none⟩)] w fun e w' => e = .returned (.bool (hasB S x)) ∧ Below w.heap.size w w' := by
  have q0 := hc.get (j := 0) rfl
  have HM := Lib.hid hm
  have HK := Lib.hid (keyS x (reach_key hx))
  clear hc hm
  obtain ⟨B, hB⟩ : ∃ B, B = hasB S x := ⟨_, rfl⟩
  rw [← hB]
  have HB := Lib.hid hB
  clear hB
  go_enter Tryz.func73, Tryz.ntmps73
  go_wp2_with (first
    | ((with_reducible show wpList _ _ _ (⟨some 6, _, _, _, _, _⟩ :: _) _ _); refine wpList_lookGv _ rfl (.tmp 4) (.tmp 5) 118 9 4 rfl strKeyed mapSB (.bool false) boolZero bm _ rfl HM.out x rfl HK.out (.bool B) (by rw [HB.out]) ?_))
  go_ret
  exact ⟨rfl, Below.refl _ _⟩
theorem oth_any (g : Nat) (cs : List Value) (p : Pp) (x : Int) (w : World) (hc : BL w g 42 cs) (hp : rPp w cs p) :
    Calls Tryz.prog 75 #[.int .i64 x, .pointer (some ⟨g, 0, none⟩)] w fun e w' => e = .returned (.bool (!p.ws.contains x)) ∧ Below w.heap.size w w' := by
  obtain ⟨A1, n1, c1, A2, n2, c2, rfl, hl1, _⟩ := hp
  have q0 := hc.get (j := 3) rfl
  have H := Lib.hid hl1
  clear hc hl1
  cases f1 : p.ws.contains x <;>
  · go_enter Tryz.func75, Tryz.ntmps75
    go_wp2_with (first
      | (go_at_call 42; refine (contains_any A1 n1 c1 p.ws x w H.out).mono ?_; rintro e w3 ⟨rfl, hw⟩; rw [hw, f1]; clear hw w3))
    go_ret
    exact ⟨rfl, Below.refl _ _⟩
/-- The reply's kind. -/
def replyK (p : Pp) (need : List (List UInt8)) (wrs : List Int) : Int := if p.ss.any (fun s => hasB need s) then 5 else if wrs.any (fun x => !p.ws.contains x) then 5 else 4
theorem reply_kind (cs : List Value) (p : Pp) (A : Option Addr) (n c : Nat) (need : List (List UInt8)) (B' : Option Addr) (m d : Nat) (wrs : List Int) (w : World) (hp : rPp w cs p) (hA : LS rStr 1 16 w A n c need) (hB : LS rInt 1 8 w B' m d wrs) :
    Calls Tryz.prog 38 #[.agg cs.toArray, .slice A n c, .slice B' m d] w fun e w' => e = .returned (.int .i64 (replyK p need wrs)) ∧ Below w.heap.size w w' := by
  have H := Lib.hid hp
  have hn := hA.len_le
  have HA := Lib.hid hA
  have HLN := Lib.hid hA.1
  have HB := Lib.hid hB
  obtain ⟨A1, n1, c1, A2, n2, c2, rfl, _, hl2, _⟩ := hp
  have HS := Lib.hid hl2
  clear hA hB hl2
  go_enter Tryz.func38, Tryz.ntmps38
  go_wp2_with (first
    | ((with_reducible show wpList _ _ _ (⟨some 3, _, _, _, _, _⟩ :: _) _ _); refine wpList_box _ rfl 42 (.tmp 0) rfl (ppC p A1 n1 c1 A2 n2 c2) rfl ?_; intro w1 y1 y2 y3; have HP1 := Lib.hid y1; have HB1 := Lib.hid y2; clear y1 y2 y3)
    | ((with_reducible show wpList _ _ _ (⟨some 12, _, _, _, _, _⟩ :: _) _ _); refine wpList_makeGs (enc := usC) _ rfl 118 9 4 (.tmp 11) rfl mapSB (n : Int) rfl (.bool false) ?_; intro w2 y1 y2 y3; have HM2 := Lib.hid y1; have HP2 := Lib.hid (HP1.out.kept y2); have HB2 := Lib.hid (below_then HB1.out y2); clear y1 y2 y3)
    | ((with_reducible show wpList _ _ _ (⟨some 7, _, _, _, _, _⟩ :: _) _ _); refine wpList_alloc1 _ rfl 118 rfl (.map none) (by kernel_rfl) rfl ?_; intro w3 y1 y2 y3; have HC3 := Lib.hid y1; have HM3 := Lib.hid (HM2.out.kept y2); have HP3 := Lib.hid (HP2.out.kept y2); have HB3 := Lib.hid (below_then HB2.out y2); clear y1 y2 y3)
    | ((with_reducible show wpList _ _ _ (⟨none, _, _, _, _, _⟩ :: _) _ _); refine wpList_store1 _ rfl 118 (.tmp 7) (.tmp 12) rfl (sz1 _ (by kernel_rfl) _) w2.heap.size 0 _ _ (.map (some w1.heap.size)) rfl rfl HC3.out rfl rfl (by simp) ?_; intro w4 y1 y2 y3; have HC4 := Lib.hid y1; have HP4 := Lib.hid (y2.bl HP3.out (HP3.out.ne HC3.out (by decide))); have HM4 := Lib.hid (HM3.out.kp y2 (HM3.out.ne_bl HC3.out).symm); have HB4 := Lib.hid (low_kp HB3.out y2 (fun i hi e => by have := HB2.out.size; omega)); clear y1 y2 y3))
  go_loopw [15] (fun iv wr => ∃ k : Nat, k ≤ n ∧ iv = .int .i64 (k : Int) ∧ Hid (MG Tryz.prog 9 usC (.bool false) wr w1.heap.size (fun y => .bool (hasB (need.take k) y))) ∧ Hid (Kp (· = w1.heap.size) w4 wr)) (fun iv _ => n - (intOf iv).toNat)
  case atStart => exact ⟨0, by omega, rfl, HM4, Lib.hid (Kp.refl _ _)⟩
  case round =>
    obtain ⟨k, hk, rfl, hm, hkp⟩ := hrel
    obtain ⟨wx, hwx⟩ : ∃ x, x = wr := ⟨_, rfl⟩
    rw [← hwx] at hm hkp ⊢
    clear hwx
    have HBx : Hid (Below w.heap.size w wx) := Lib.hid (low_kp HB4.out hkp.out (fun i hi e => by have := HB1.out.size; omega))
    have HCx := Lib.hid (hkp.out.bl HC4.out (HM4.out.ne_bl HC4.out))
    have q1 := HCx.out.get (j := 0) rfl
    by_cases hlt : k < n
    · obtain ⟨x, g, o, hs, ea, q0⟩ := HA.out.str_at HBx.out hlt
      have HX := Lib.hid hs
      have HKS := Lib.hid (keyS x (reach_key (HA.out.str_ok hs)))
      subst ea
      clear hs
      go_wp2_with (first
        | ((with_reducible show wpList _ _ _ (⟨none, _, _, _, _, _⟩ :: _) _ _); refine wpList_updG _ (fun x y h => usC_in h) rfl (.tmp 19) (.tmp 20) (.const (.bool true)) 118 9 4 rfl strKeyed mapSB (.bool false) w1.heap.size _ rfl hm.out x (.bool true) rfl rfl HKS.out ?_; intro w5 y1 y2 y3; have HM5 := Lib.hid y1; have HK5 := Lib.hid y2; clear y1 y2 y3))
      go_roundw
      case rel =>
        refine ⟨k + 1, by omega, by go_num, Lib.hid (HM5.out.to (fun y => ?_)), Lib.hid (hkp.out.trans HK5.out)⟩
        rw [hasB_step HX.out]
        by_cases hy : y = x
        · subst hy; simp
        · rw [if_neg hy, beq_eq_false_iff_ne.2 (fun e => hy e.symm), Bool.or_false]
      case measure => simp [intOf]; omega
    · obtain rfl : k = n := by omega
      rw [take_end HLN.out] at hm
      have HPx := Lib.hid (hkp.out.bl HP4.out (HM4.out.ne_bl HP4.out))
      have q2 := HPx.out.get (j := 4) rfl
      cases f1 : p.ss.any (fun s => hasB need s) with
      | true =>
        go_wp2_with (first
          | (go_at_call 72; refine (cont_want A2 n2 c2 p.ss (fun s => hasB need s) _ wx (HS.out.kept stay_str HBx.out) (fun w1 x h1 h2 => want_any _ _ need x w1 (HCx.out.kept h1) (hm.out.kept h1) (HS.out.str_mem h2))).mono ?_; rintro e w6 ⟨rfl, x1⟩; rw [f1]; have HB6 := Lib.hid (below_thenB HBx.out HBx.out.size x1); clear x1))
        go_ret
        exact ⟨by rw [replyK, f1]; rfl, HB6.out⟩
      | false =>
        cases f2 : wrs.any (fun x => !p.ws.contains x) <;>
        · go_wp2_with (first
            | (go_at_call 72; refine (cont_want A2 n2 c2 p.ss (fun s => hasB need s) _ wx (HS.out.kept stay_str HBx.out) (fun w1 x h1 h2 => want_any _ _ need x w1 (HCx.out.kept h1) (hm.out.kept h1) (HS.out.str_mem h2))).mono ?_; rintro e w6 ⟨rfl, x1⟩; rw [f1]; have HP6 := Lib.hid (HPx.out.kept x1); have HB6 := Lib.hid (below_thenB HBx.out HBx.out.size x1); clear x1)
            | (go_at_call 74; refine (cont_oth B' m d wrs (fun x => !p.ws.contains x) _ w6 (HB.out.kept stay_int HB6.out) (fun w1 x h1 h2 => oth_any _ _ p x w1 (HP6.out.kept h1) (stay_pp _ _ _ _ H.out (below_thenB HB6.out HB6.out.size h1)))).mono ?_; rintro e w7 ⟨rfl, x1⟩; rw [f2]; have HB7 := Lib.hid (below_thenB HB6.out HB6.out.size x1); clear x1))
          go_ret
          exact ⟨by rw [replyK, f1, f2]; rfl, HB7.out⟩
end
end Go.Proofs.YtfonbliomokffaaGreat
/- Ascending lists of strings: an insertion, plainly (out of Vo of chapter 49, by bin/mk47d.py). -/
namespace Go.Proofs.YtfonbliomokffaaGreat
open Go Gf

theorem str_ltr {a b c : List UInt8} (h1 : a < b) (h2 : b < c) : a < c := List.lt_trans h1 h2
theorem str_lir (a : List UInt8) : ¬ a < a := List.lt_irrefl a
theorem str_nlt {a b : List UInt8} : ¬ a < b ↔ b ≤ a := List.not_lt
theorem str_lle {a b : List UInt8} (h : a ≤ b) (hn : a ≠ b) : a < b := by
  rcases List.le_iff_lt_or_eq.1 h with h | h
  · exact h
  · exact absurd h hn
theorem asc_ext : ∀ {l1 l2 : List (List UInt8)}, l1.Pairwise (· < ·) → l2.Pairwise (· < ·) → (∀ y, y ∈ l1 ↔ y ∈ l2) → l1 = l2
  | [], [], _, _, _ => rfl
  | [], b :: l2, _, _, h => absurd ((h b).2 (by simp)) (by simp)
  | a :: l1, [], _, _, h => absurd ((h a).1 (by simp)) (by simp)
  | a :: l1, b :: l2, h1, h2, h => by
    rw [List.pairwise_cons] at h1 h2
    have hab : a = b := by
      have m1 := (h a).1 (by simp)
      have m2 := (h b).2 (by simp)
      rw [List.mem_cons] at m1 m2
      rcases m1 with e | m1
      · exact e
      rcases m2 with e | m2
      · exact e.symm
      exact absurd (str_ltr (h1.1 b m2) (h2.1 a m1)) (str_lir a)
    subst hab
    rw [asc_ext h1.2 h2.2 (fun y => by
      have := h y
      rw [List.mem_cons, List.mem_cons] at this
      constructor
      · intro hy
        rcases this.1 (.inr hy) with e | e
        · exact absurd (h1.1 y hy) (by rw [e]; exact str_lir a)
        · exact e
      · intro hy
        rcases this.2 (.inr hy) with e | e
        · exact absurd (h2.1 y hy) (by rw [e]; exact str_lir a)
        · exact e)]
def addS (l : List (List UInt8)) (s : List UInt8) : List (List UInt8) := if (l.dropWhile fun y => decide (y < s)).head? = some s then l else (l.takeWhile fun y => decide (y < s)) ++ s :: (l.dropWhile fun y => decide (y < s))
theorem addS_asc {l : List (List UInt8)} (h : l.Pairwise (· < ·)) (s : List UInt8) : (addS l s).Pairwise (· < ·) ∧ ∀ y, y ∈ addS l s ↔ y ∈ l ∨ y = s := by
  unfold addS
  by_cases hh : (l.dropWhile fun y => decide (y < s)).head? = some s
  · rw [if_pos hh]
    refine ⟨h, fun y => ⟨.inl, fun h' => h'.elim id (fun e => ?_)⟩⟩
    subst e
    have : y ∈ l.dropWhile fun z => decide (z < y) := List.mem_of_head? hh
    exact (List.dropWhile_sublist _).subset this
  · rw [if_neg hh]
    have e := List.takeWhile_append_dropWhile (p := fun y => decide (y < s)) (l := l)
    have h1 : ∀ y ∈ l.takeWhile fun y => decide (y < s), y < s := fun y hy => by
      have := List.all_eq_true.1 (List.all_takeWhile (p := fun y => decide (y < s)) (l := l)) y hy
      simpa using this
    have h2 : ∀ y ∈ l.dropWhile fun y => decide (y < s), s < y := by
      cases hd : l.dropWhile fun y => decide (y < s) with
      | nil => intro y hy; simp at hy
      | cons a r =>
        have h3 : ¬ a < s := by
          have := List.head?_dropWhile_not (fun y => decide (y < s)) l
          rw [hd] at this
          simpa using this
        have h4 : s < a :=  str_lle (str_nlt.1 h3) (fun e => hh (by rw [hd, e]; rfl))
        have h5 : (a :: r).Pairwise (· < ·) := by rw [← hd]; exact h.sublist (List.dropWhile_sublist _)
        intro y hy
        rw [List.mem_cons] at hy
        rcases hy with rfl | hy
        · exact h4
        · exact str_ltr h4 ((List.pairwise_cons.1 h5).1 y hy)
    constructor
    · rw [List.pairwise_append]
      refine ⟨h.sublist (List.takeWhile_sublist _), List.pairwise_cons.2 ⟨h2, h.sublist (List.dropWhile_sublist _)⟩, fun a ha b hb => ?_⟩
      rw [List.mem_cons] at hb
      rcases hb with rfl | hb
      · exact h1 a ha
      · exact str_ltr (h1 a ha) (h2 b hb)
    · intro y
      rw [List.mem_append, List.mem_cons]
      constructor
      · rintro (h9 | h9 | h9)
        · exact .inl ((List.takeWhile_sublist _).subset h9)
        · exact .inr h9
        · exact .inl ((List.dropWhile_sublist _).subset h9)
      · rintro (h9 | h9)
        · rw [← e, List.mem_append] at h9
          rcases h9 with h9 | h9
          · exact .inl h9
          · exact .inr (.inr h9)
        · exact .inr (.inl h9)
def ssort (z : List (List UInt8)) : List (List UInt8) := z.mergeSort fun x y => decide (x ≤ y)
theorem sort_asc {l : List (List UInt8)} (h : l.Nodup) : (ssort l).Pairwise (· < ·) := by
  unfold ssort
  have h1 : (l.mergeSort fun x y => decide (x ≤ y)).Pairwise (fun x y => decide (x ≤ y) = true) := List.pairwise_mergeSort (fun a b c h1 h2 => by simp only [decide_eq_true_eq] at *; exact List.le_trans h1 h2) (fun a b => by simp only [Bool.or_eq_true, decide_eq_true_eq]; exact List.le_total a b) l
  have h2 : (l.mergeSort fun x y => decide (x ≤ y)).Nodup := (List.mergeSort_perm l _).nodup_iff.2 h
  exact h1.imp₂ (fun a b h3 h4 =>  str_lle (by simpa using h3) h4) h2
theorem addS_len (l : List (List UInt8)) (s : List UInt8) : (addS l s).length ≤ l.length + 1 := by
  unfold addS
  split
  · omega
  · have e := congrArg List.length (List.takeWhile_append_dropWhile (p := fun y => decide (y < s)) (l := l))
    rw [List.length_append] at e
    rw [List.length_append, List.length_cons]
    omega
/-- Where the loop stops. -/
theorem take_stop {l : List (List UInt8)} {s : List UInt8} : ∀ {k : Nat}, (l.take k).all (fun y => decide (y < s)) = true → (∀ y, l[k]? = some y → decide (y < s) = false) → l.takeWhile (fun y => decide (y < s)) = l.take k ∧ l.dropWhile (fun y => decide (y < s)) = l.drop k := by
  induction l with
  | nil => intro k _ _; simp
  | cons a l ih =>
    intro k h1 h2
    cases k with
    | zero =>
      have := h2 a rfl
      simp [this]
    | succ k =>
      rw [List.take_succ_cons, List.all_cons, Bool.and_eq_true] at h1
      obtain ⟨e1, e2⟩ := ih h1.2 (fun y hy => h2 y (by simpa using hy))
      rw [List.takeWhile_cons_of_pos (p := fun y => decide (y < s)) h1.1, List.dropWhile_cons_of_pos (p := fun y => decide (y < s)) h1.1, e1, e2]
      exact ⟨rfl, rfl⟩
theorem addS_at {l : List (List UInt8)} {s : List UInt8} {k : Nat} (h1 : (l.take k).all (fun y => decide (y < s)) = true) (h2 : ∀ y, l[k]? = some y → decide (y < s) = false) : addS l s = if l[k]? = some s then l else l.take k ++ s :: l.drop k := by
  obtain ⟨e1, e2⟩ := take_stop h1 h2
  unfold addS
  rw [e1, e2, List.head?_drop]
/-- Strings, ascending, each once. -/
def uniqS (l : List (List UInt8)) : List (List UInt8) := l.foldl addS []
theorem fold_asc : ∀ (l m : List (List UInt8)), m.Pairwise (· < ·) → (l.foldl addS m).Pairwise (· < ·) ∧ ∀ y, y ∈ l.foldl addS m ↔ y ∈ m ∨ y ∈ l
  | [], m, h => ⟨h, fun y => by simp⟩
  | a :: l, m, h => by
    obtain ⟨h1, h2⟩ := addS_asc h a
    obtain ⟨h3, h4⟩ := fold_asc l (addS m a) h1
    refine ⟨h3, fun y => ?_⟩
    rw [List.foldl_cons, h4 y, h2 y, List.mem_cons]
    constructor
    · rintro ((h | h) | h)
      · exact .inl h
      · exact .inr (.inl h)
      · exact .inr (.inr h)
    · rintro (h | h | h)
      · exact .inl (.inl h)
      · exact .inl (.inr h)
      · exact .inr h
theorem uniq_asc (l : List (List UInt8)) : (uniqS l).Pairwise (· < ·) := (fold_asc l [] List.Pairwise.nil).1
theorem uniq_mem (l : List (List UInt8)) (y : List UInt8) : y ∈ uniqS l ↔ y ∈ l := by
  have := (fold_asc l [] List.Pairwise.nil).2 y
  unfold uniqS
  rw [this]; simp
theorem fold_len : ∀ (l m : List (List UInt8)), (l.foldl addS m).length ≤ m.length + l.length
  | [], m => by simp
  | a :: l, m => by
    have h1 := fold_len l (addS m a)
    have h2 := addS_len m a
    rw [List.foldl_cons, List.length_cons]; omega
theorem uniq_len (l : List (List UInt8)) : (uniqS l).length ≤ l.length := by have := fold_len l []; simpa [uniqS] using this
theorem uniq_has (l : List (List UInt8)) (y : List UInt8) : hasB (uniqS l) y = hasB l y := by
  unfold hasB
  rw [Bool.eq_iff_iff, List.any_eq_true, List.any_eq_true]
  constructor <;> rintro ⟨x, h1, h2⟩
  · exact ⟨x, (uniq_mem l x).1 h1, h2⟩
  · exact ⟨x, (uniq_mem l x).2 h1, h2⟩
theorem hasB_iff (l : List (List UInt8)) (y : List UInt8) : hasB l y = true ↔ y ∈ l := by
  unfold hasB
  rw [List.any_eq_true]
  constructor
  · rintro ⟨x, h1, h2⟩; rw [← beq_iff_eq.1 h2]; exact h1
  · intro h; exact ⟨y, h, beq_self_eq_true y⟩
theorem asc_nodup {l : List (List UInt8)} (h : l.Pairwise (· < ·)) : l.Nodup := h.imp fun {a b} h e => by subst e; exact str_lir _ h
/-- Sorting what is an ascending list but for the order gives the list. -/
theorem sort_to {l s : List (List UInt8)} (hp : l.Perm s) (hs : s.Pairwise (· < ·)) : ssort l = s := by
  have h1 : l.Nodup := hp.nodup_iff.2 (asc_nodup hs)
  refine asc_ext (sort_asc h1) hs (fun y => ?_)
  rw [← hp.mem_iff]
  exact (List.mergeSort_perm l _).mem_iff
end Go.Proofs.YtfonbliomokffaaGreat
