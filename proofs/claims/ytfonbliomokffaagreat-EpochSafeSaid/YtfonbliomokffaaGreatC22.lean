/- Several texts in one: Di, Un. -/
import Derived.Test.YtfonbliomokffaaGreatC21
/- law47: distinct; the reference's Same on two readings of one proposal. -/
namespace Go.Proofs.YtfonbliomokffaaGreat
open Go Go.RowKit Gf Sha

theorem dist_not {es : List En} {j k : Nat} {x y : En} (hj : es[j]? = some y) (hk : es[k]? = some x) (hjk : j < k) (he : keyE y = keyE x) : ¬ DistE es := fun h => by
  obtain ⟨h1, rfl⟩ := List.getElem?_eq_some_iff.1 hj
  obtain ⟨h2, rfl⟩ := List.getElem?_eq_some_iff.1 hk
  exact List.pairwise_iff_getElem.1 h j k h1 h2 hjk he
theorem dist_next {es : List En} {k : Nat} {x : En} (h : DistE (es.take k)) (hk : es[k]? = some x) (ha : ∀ y ∈ es.take k, keyE y ≠ keyE x) : DistE (es.take (k + 1)) := by
  rw [take_next hk]
  refine List.pairwise_append.2 ⟨h, List.pairwise_singleton _ _, fun y hy z hz => ?_⟩
  rw [List.mem_singleton.1 hz]
  exact ha y hy
instance (es : List En) : Decidable (DistE es) := inferInstanceAs (Decidable (List.Pairwise _ es))
section
set_option maxRecDepth 100000
set_option maxHeartbeats 4000000
theorem distinct_any (A : Option Addr) (n c : Nat) (es : List En) (w : World) (h : LS rEn 6 72 w A n c es) :
    Calls Tryz.prog 16 #[.slice A n c] w fun e w' => e = .returned (.bool (decide (DistE es))) ∧ Below w.heap.size w w' := by
  have hn := h.len_le
  have H := Lib.hid h
  have HL := Lib.hid h.1
  clear h
  go_enter Tryz.func16, Tryz.ntmps16
  go_wp2_with fail
  go_loopw [8] (fun iv wr => ∃ k : Nat, k ≤ n ∧ iv = .int .i64 (k : Int) ∧ Hid (DistE (es.take k)) ∧ Hid (Below w.heap.size w wr)) (fun iv _ => n - (intOf iv).toNat)
  case atStart => exact ⟨0, by omega, rfl, Lib.hid List.Pairwise.nil, Lib.hid (Below.refl _ _)⟩
  case round =>
    obtain ⟨k, hk, rfl, hall, hb⟩ := hrel
    obtain ⟨wx, hwx⟩ : ∃ x, x = wr := ⟨_, rfl⟩
    rw [← hwx] at hb ⊢
    clear hwx
    by_cases hlt : k < n
    · obtain ⟨x, g, o, cs, hs, ea, hat, hr⟩ := H.out.at_ stay_en hb.out hlt
      obtain ⟨AB, m, d, rfl, _⟩ := hr
      have HX := Lib.hid hs
      have HA := Lib.hid hat
      have HEA := Lib.hid ea
      subst ea
      clear hs hat
      go_wp2_with (first
        | ((with_reducible show wpList _ _ _ (⟨some 12, _, _, _, _, _⟩ :: _) _ _); refine wpList_loadv _ rfl 33 (.tmp 11) rfl 6 (by kernel_rfl) g (o + k * 6) (enC x AB m d) (by go_simp) HA.out rfl ?_)
        | ((with_reducible show wpList _ _ _ (⟨some 4, _, _, _, _, _⟩ :: _) _ _); refine wpList_alloc _ rfl 33 rfl enZ enZero ?_; intro w3 a1 a2 a3; have HV3 := Lib.hid a1; have HX3 := Lib.hid a2; clear a1 a2 a3)
        | ((with_reducible show wpList _ _ _ (⟨none, _, _, _, _, _⟩ :: _) _ _); refine wpList_storev _ rfl 33 (.tmp 4) (.tmp 12) rfl 6 (by kernel_rfl) wx.heap.size 0 _ enZ (enC x AB m d) rfl rfl HV3.out rfl (one_en x AB m d) (by decide) ?_; intro w4 a1 a2 a3; have HV4 : Hid (BL w4 wx.heap.size 33 (enC x AB m d)) := Lib.hid a1; have HX4 : Hid (Below wx.heap.size wx w4) := Lib.hid (((Kp.of_below (S := fun _ => False) HX3.out).after a2 (fun i hi e => by omega)).below (Nat.le_refl _) (fun _ h => h.elim)); clear a1 a2 a3)
        | fail)
      have HB4 := Lib.hid (below_thenB hb.out hb.out.size HX4.out)
      go_loopw [5] (fun iv wr => ∃ j : Nat, j ≤ k ∧ iv = .int .i64 (j : Int) ∧ Hid (∀ y ∈ es.take j, keyE y ≠ keyE x) ∧ Hid (Below w4.heap.size w4 wr)) (fun iv _ => k - (intOf iv).toNat)
      case atStart => exact ⟨0, by omega, rfl, Lib.hid (fun y hy => by simp at hy), Lib.hid (Below.refl _ _)⟩
      case round =>
        obtain ⟨j, hj, rfl, hne, hb'⟩ := hrel
        have p0 := (HV4.out.kept hb'.out).get (j := 0) rfl
        have p1 := (HV4.out.kept hb'.out).get (j := 1) rfl
        have HB6 := Lib.hid (below_thenB HB4.out HB4.out.size hb'.out)
        by_cases hjk : j < k
        · have hjn : j < n := by omega
          obtain ⟨y, g', o', cs', hs', e', hat', hr'⟩ := H.out.at_ stay_en HB6.out hjn
          cases e'
          obtain ⟨AB', m', d', rfl, _⟩ := hr'
          have HY := Lib.hid hs'
          have q0 : wr.cell? ⟨g, o + j * 6, none⟩ = some (.int .i64 y.dev) := hat' 0 _ rfl
          have q1 : wr.cell? ⟨g, o + j * 6 + 1, none⟩ = some (.int .i64 y.seq) := hat' 1 _ rfl
          clear hs' hat'
          cases e1 : (y.dev == x.dev) with
          | false =>
            have HF : Hid (∀ z ∈ es.take (j + 1), keyE z ≠ keyE x) := Lib.hid (fun z hz => by
              rw [take_next HY.out] at hz
              rcases List.mem_append.1 hz with h | h
              · exact hne.out z h
              · rw [List.mem_singleton.1 h]
                intro e
                have e2 : y.dev = x.dev := congrArg Prod.fst e
                rw [e2] at e1
                simp at e1)
            go_wp2_with fail
            refine Text.wp_region_text (fun _ => True) [(0, 4), (1, 4), (2, 4), (3, 4), (5, 4), (4, 1), (6, 1), (7, 4), (8, 4), (9, 4), (10, 4), (11, 4), (12, 4), (13, 4), (14, 4), (15, 4), (16, 4), (17, 4)] (by kernel_rfl) (by kernel_rfl) (fun _ _ _ _ _ h => h) (trivial) ?_
            iterate 5 (refine Text.purek rfl rfl (fun K hK => ⟨_, fun w' => by go_simp <;> rfl, ?_⟩); go_simp; refine hK _ ?_; clear hK K)
            iterate 2 (refine Text.readk rfl rfl (fun K hK => ⟨_, by go_simp <;> rfl, ?_⟩); go_simp; refine hK _ ?_; clear hK K)
            iterate 2 (refine Text.purek rfl rfl (fun K hK => ⟨_, fun w' => by go_simp <;> rfl, ?_⟩); go_simp; refine hK _ ?_; clear hK K)
            iterate 8 (refine Text.skipk (.inr (.inr rfl)) rfl rfl (fun K hK => ?_); go_simp; refine hK _ ?_; clear hK K)
            (refine Text.purek rfl rfl (fun K hK => ⟨_, fun w' => by go_simp <;> rfl, ?_⟩); go_simp; refine hK _ ?_; clear hK K)
            refine Text.done ?_
            go_wp2_with fail
            go_roundw
            case rel => exact ⟨j + 1, by omega, by go_num, HF, Lib.hid hb'.out.drew⟩
            case measure => simp [intOf]; omega
          | true =>
            cases e2 : (y.seq == x.seq) with
            | false =>
              have HF : Hid (∀ z ∈ es.take (j + 1), keyE z ≠ keyE x) := Lib.hid (fun z hz => by
                rw [take_next HY.out] at hz
                rcases List.mem_append.1 hz with h | h
                · exact hne.out z h
                · rw [List.mem_singleton.1 h]
                  intro e
                  have e2' : y.seq = x.seq := congrArg Prod.snd e
                  rw [e2'] at e2
                  simp at e2)
              go_wp2_with fail
              refine Text.wp_region_text (fun _ => True) [(0, 4), (1, 4), (2, 4), (3, 4), (5, 4), (4, 1), (6, 1), (7, 4), (8, 4), (9, 4), (10, 4), (11, 4), (12, 4), (14, 4), (13, 1), (15, 1), (16, 4), (17, 4)] (by kernel_rfl) (by kernel_rfl) (fun _ _ _ _ _ h => h) (trivial) ?_
              iterate 5 (refine Text.purek rfl rfl (fun K hK => ⟨_, fun w' => by go_simp <;> rfl, ?_⟩); go_simp; refine hK _ ?_; clear hK K)
              iterate 2 (refine Text.readk rfl rfl (fun K hK => ⟨_, by go_simp <;> rfl, ?_⟩); go_simp; refine hK _ ?_; clear hK K)
              iterate 7 (refine Text.purek rfl rfl (fun K hK => ⟨_, fun w' => by go_simp <;> rfl, ?_⟩); go_simp; refine hK _ ?_; clear hK K)
              iterate 2 (refine Text.readk rfl rfl (fun K hK => ⟨_, by go_simp <;> rfl, ?_⟩); go_simp; refine hK _ ?_; clear hK K)
              iterate 2 (refine Text.purek rfl rfl (fun K hK => ⟨_, fun w' => by go_simp <;> rfl, ?_⟩); go_simp; refine hK _ ?_; clear hK K)
              refine Text.done ?_
              go_wp2_with fail
              go_roundw
              case rel => exact ⟨j + 1, by omega, by go_num, HF, Lib.hid hb'.out.drew⟩
              case measure => simp [intOf]; omega
            | true =>
              have HF : Hid (decide (DistE es) = false) := Lib.hid (decide_eq_false (dist_not HY.out HX.out hjk (by
                rw [beq_iff_eq] at e1 e2
                exact Prod.ext e1 e2)))
              go_wp2_with fail
              refine Text.wp_region_text (fun _ => True) [(0, 4), (1, 4), (2, 4), (3, 4), (5, 4), (4, 1), (6, 1), (7, 4), (8, 4), (9, 4), (10, 4), (11, 4), (12, 4), (14, 4), (13, 1), (15, 1), (16, 4), (17, 4)] (by kernel_rfl) (by kernel_rfl) (fun _ _ _ _ _ h => h) (trivial) ?_
              iterate 5 (refine Text.purek rfl rfl (fun K hK => ⟨_, fun w' => by go_simp <;> rfl, ?_⟩); go_simp; refine hK _ ?_; clear hK K)
              iterate 2 (refine Text.readk rfl rfl (fun K hK => ⟨_, by go_simp <;> rfl, ?_⟩); go_simp; refine hK _ ?_; clear hK K)
              iterate 7 (refine Text.purek rfl rfl (fun K hK => ⟨_, fun w' => by go_simp <;> rfl, ?_⟩); go_simp; refine hK _ ?_; clear hK K)
              iterate 2 (refine Text.readk rfl rfl (fun K hK => ⟨_, by go_simp <;> rfl, ?_⟩); go_simp; refine hK _ ?_; clear hK K)
              iterate 2 (refine Text.purek rfl rfl (fun K hK => ⟨_, fun w' => by go_simp <;> rfl, ?_⟩); go_simp; refine hK _ ?_; clear hK K)
              refine Text.done ?_
              go_wp2_with fail
              go_ret
              exact ⟨ret_bool HF.out.symm, HB6.out.drew⟩
        · obtain rfl : j = k := by omega
          have HT := Lib.hid (dist_next hall.out HX.out hne.out)
          go_wp2_with fail
          go_roundw
          case rel => exact ⟨j + 1, by omega, by go_num, HT, HB6⟩
          case measure => simp [intOf]; omega
    · obtain rfl : k = n := by omega
      have HF : Hid (decide (DistE es) = true) := Lib.hid (decide_eq_true (by have := hall.out; rwa [take_end HL.out] at this))
      go_wp2_with fail
      go_ret
      exact ⟨ret_bool HF.out.symm, hb.out⟩
theorem rsame_refl (cs ds : List Value) (p : Pp) (w : World) (hp : rPp w cs p) (hq : rPp w ds p) :
    Calls Tryz.prog 19 #[.agg cs.toArray, .agg ds.toArray] w fun e w' => e = .returned (.bool true) ∧ Below w.heap.size w w' := by
  obtain ⟨A1, n1, c1, A2, n2, c2, rfl, hl1, hl2, _⟩ := hp
  obtain ⟨B1, m1, d1, B2, m2, d2, rfl, kl1, kl2, _⟩ := hq
  obtain rfl : n1 = m1 := hl1.1.symm.trans kl1.1
  obtain rfl : n2 = m2 := hl2.1.symm.trans kl2.1
  have hn1 := hl1.len_le
  have hn2 := hl2.len_le
  have H1 := Lib.hid hl1
  have H2 := Lib.hid hl2
  have K1 := Lib.hid kl1
  have K2 := Lib.hid kl2
  clear hl1 hl2 kl1 kl2
  go_enter Tryz.func19, Tryz.ntmps19
  go_wp2_with (first
    | ((with_reducible show wpList _ _ _ (⟨some 2, _, _, _, _, _⟩ :: _) _ _); refine wpList_box _ rfl 40 (.tmp 0) rfl (ppC p A1 n1 c1 A2 n2 c2) rfl ?_; intro w1 y1 y2 y3; have HP1 := Lib.hid y1; have HB1 := Lib.hid y2; clear y1 y2 y3)
    | ((with_reducible show wpList _ _ _ (⟨some 3, _, _, _, _, _⟩ :: _) _ _); refine wpList_box _ rfl 40 (.tmp 1) rfl (ppC p B1 n1 d1 B2 n2 d2) rfl ?_; intro w2 y1 y2 y3; have HB2 := Lib.hid (below_then HB1.out y2); have HP2 := Lib.hid (HP1.out.kept y2); have HQ2 := Lib.hid y1; have q0 := (HP1.out.kept y2).get (j := 0) rfl; have q1 := (HP1.out.kept y2).get (j := 1) rfl; have q2 := (HP1.out.kept y2).get (j := 2) rfl; have q3 := (HP1.out.kept y2).get (j := 3) rfl; have q4 := (HP1.out.kept y2).get (j := 4) rfl; have r0 := y1.get (j := 0) rfl; have r1 := y1.get (j := 1) rfl; have r2 := y1.get (j := 2) rfl; have r3 := y1.get (j := 3) rfl; have r4 := y1.get (j := 4) rfl; clear y1 y2 y3))
  clear q0 q1 q2 q3 q4 r0 r1 r2 r3 r4
  go_loopw [47] (fun iv wr => ∃ k : Nat, k ≤ n1 ∧ iv = .int .i64 (k : Int) ∧ Hid (Below w2.heap.size w2 wr)) (fun iv _ => n1 - (intOf iv).toNat)
  case atStart => exact ⟨0, by omega, rfl, Lib.hid (Below.refl _ _)⟩
  case round =>
    obtain ⟨k, hk, rfl, hb⟩ := hrel
    have HBx := Lib.hid (below_thenB HB2.out HB2.out.size hb.out)
    by_cases hlt : k < n1
    · obtain ⟨x, g, o, hs, ea, p0⟩ := H1.out.int_at HBx.out hlt
      obtain ⟨y, g', o', hs', ea', p1⟩ := K1.out.int_at HBx.out hlt
      obtain rfl : y = x := by rw [hs] at hs'; exact (Option.some.inj hs').symm
      subst ea ea'
      clear hs hs'
      have q3 := (HP2.out.kept hb.out).get (j := 3) rfl
      have r3 := (HQ2.out.kept hb.out).get (j := 3) rfl
      go_wp2_with fail
      refine Text.wp_region_text (fun _ => True) [(0, 4), (2, 4), (5, 4), (7, 4), (1, 1), (3, 4), (4, 1), (6, 1), (8, 4), (9, 1), (10, 4)] (by kernel_rfl) (by kernel_rfl) (fun _ _ _ _ _ h => h) (trivial) ?_
      iterate 4 (refine Text.purek rfl rfl (fun K hK => ⟨_, fun w' => by go_simp <;> rfl, ?_⟩); go_simp; refine hK _ ?_; clear hK K)
      (refine Text.readk rfl rfl (fun K hK => ⟨_, by go_simp <;> rfl, ?_⟩); go_simp; refine hK _ ?_; clear hK K)
      (refine Text.purek rfl rfl (fun K hK => ⟨_, fun w' => by go_simp <;> rfl, ?_⟩); go_simp; refine hK _ ?_; clear hK K)
      iterate 2 (refine Text.readk rfl rfl (fun K hK => ⟨_, by go_simp <;> rfl, ?_⟩); go_simp; refine hK _ ?_; clear hK K)
      (refine Text.purek rfl rfl (fun K hK => ⟨_, fun w' => by go_simp <;> rfl, ?_⟩); go_simp; refine hK _ ?_; clear hK K)
      (refine Text.readk rfl rfl (fun K hK => ⟨_, by go_simp <;> rfl, ?_⟩); go_simp; refine hK _ ?_; clear hK K)
      (refine Text.purek rfl rfl (fun K hK => ⟨_, fun w' => by go_simp <;> rfl, ?_⟩); go_simp; refine hK _ ?_; clear hK K)
      refine Text.done ?_
      go_wp2_with fail
      go_roundw
      case rel => exact ⟨k + 1, by omega, by go_num, Lib.hid hb.out.drew⟩
      case measure => simp [intOf]; omega
    · obtain rfl : k = n1 := by omega
      have q4 := (HP2.out.kept hb.out).get (j := 4) rfl
      obtain ⟨wy, hwy⟩ : ∃ x, x = wr := ⟨_, rfl⟩
      rw [← hwy] at hb HBx q4 ⊢
      clear hwy
      go_wp2_with fail
      clear q4
      go_loopw [65] (fun iv wr => ∃ j : Nat, j ≤ n2 ∧ iv = .int .i64 (j : Int) ∧ Hid (Below wy.heap.size wy wr)) (fun iv _ => n2 - (intOf iv).toNat)
      case atStart => exact ⟨0, by omega, rfl, Lib.hid (Below.refl _ _)⟩
      case round =>
        obtain ⟨j, hj, rfl, hb'⟩ := hrel
        have HBy := Lib.hid (below_thenB HBx.out HBx.out.size hb'.out)
        by_cases hjn : j < n2
        · obtain ⟨x, g, o, hs, ea, p0⟩ := H2.out.str_at HBy.out hjn
          obtain ⟨y, g', o', hs', ea', p1⟩ := K2.out.str_at HBy.out hjn
          obtain rfl : y = x := by rw [hs] at hs'; exact (Option.some.inj hs').symm
          subst ea ea'
          clear hs hs'
          have q4 := (HP2.out.kept (below_then hb.out hb'.out)).get (j := 4) rfl
          have r4 := (HQ2.out.kept (below_then hb.out hb'.out)).get (j := 4) rfl
          go_wp2_with fail
          refine Text.wp_region_text (fun _ => True) [(0, 4), (2, 4), (5, 4), (7, 4), (1, 1), (3, 4), (4, 1), (6, 1), (8, 4), (9, 1), (10, 4)] (by kernel_rfl) (by kernel_rfl) (fun _ _ _ _ _ h => h) (trivial) ?_
          iterate 4 (refine Text.purek rfl rfl (fun K hK => ⟨_, fun w' => by go_simp <;> rfl, ?_⟩); go_simp; refine hK _ ?_; clear hK K)
          (refine Text.readk rfl rfl (fun K hK => ⟨_, by go_simp <;> rfl, ?_⟩); go_simp; refine hK _ ?_; clear hK K)
          (refine Text.purek rfl rfl (fun K hK => ⟨_, fun w' => by go_simp <;> rfl, ?_⟩); go_simp; refine hK _ ?_; clear hK K)
          iterate 2 (refine Text.readk rfl rfl (fun K hK => ⟨_, by go_simp <;> rfl, ?_⟩); go_simp; refine hK _ ?_; clear hK K)
          (refine Text.purek rfl rfl (fun K hK => ⟨_, fun w' => by go_simp <;> rfl, ?_⟩); go_simp; refine hK _ ?_; clear hK K)
          (refine Text.readk rfl rfl (fun K hK => ⟨_, by go_simp <;> rfl, ?_⟩); go_simp; refine hK _ ?_; clear hK K)
          (refine Text.purek rfl rfl (fun K hK => ⟨_, fun w' => by go_simp <;> rfl, ?_⟩); go_simp; refine hK _ ?_; clear hK K)
          refine Text.done ?_
          go_wp2_with fail
          go_roundw
          case rel => exact ⟨j + 1, by omega, by go_num, Lib.hid hb'.out.drew⟩
          case measure => simp [intOf]; omega
        · obtain rfl : j = n2 := by omega
          go_wp2_with fail
          go_ret
          exact ⟨rfl, HBy.out⟩
end
end Go.Proofs.YtfonbliomokffaaGreat
/- The order of a view has no influence: plainly. -/
namespace Go.Proofs.YtfonbliomokffaaGreat
open Go Gf

theorem dd_from : ∀ (l D : List En), DistE (D ++ l) → l.foldl ddS D = D ++ l
  | [], D, _ => by simp
  | x :: l, D, h => by
    have hx : D.any (fun y => keyE y == keyE x) = false := by
      rw [List.any_eq_false]
      intro y hy hb
      exact (List.pairwise_append.1 h).2.2 y hy x (by simp) (beq_iff_eq.1 hb)
    rw [List.foldl_cons, ddS, hx]
    show l.foldl ddS (D ++ [x]) = _
    rw [dd_from l (D ++ [x]) (by simpa using h)]
    simp
theorem dd_self {es : List En} (h : DistE es) : dd es = es := by
  have := dd_from es [] (by simpa using h)
  simpa [dd] using this
theorem dist_rev {es : List En} (h : DistE es) : DistE es.reverse := List.pairwise_reverse.2 (h.imp fun h e => h e.symm)
/-- The best reply. -/
def BestP (D : List En) (key : Int × List UInt8) (b : Option En) : Prop :=
  (b = none ∧ ∀ y ∈ D, (okRep y && keyA y == key) = false) ∨ ∃ x, b = some x ∧ x ∈ D ∧ (okRep x && keyA x == key) = true ∧ ∀ y ∈ D, (okRep y && keyA y == key) = true → x.seq ≤ y.seq
theorem bestP_step {D : List En} {key : Int × List UInt8} {b : Option En} (h : BestP D key b) (x : En) : BestP (D ++ [x]) key (bestS key b x) := by
  unfold bestS
  cases hx : (okRep x && keyA x == key) with
  | false =>
    rcases h with ⟨rfl, h⟩ | ⟨y, rfl, h1, h2, h3⟩
    · refine .inl ⟨rfl, fun z hz => ?_⟩
      rcases List.mem_append.1 hz with hz | hz
      · exact h z hz
      · rw [List.mem_singleton.1 hz]; exact hx
    · refine .inr ⟨y, rfl, by simp [h1], h2, fun z hz hp => ?_⟩
      rcases List.mem_append.1 hz with hz | hz
      · exact h3 z hz hp
      · rw [List.mem_singleton.1 hz, hx] at hp; cases hp
  | true =>
    rcases h with ⟨rfl, h⟩ | ⟨y, rfl, h1, h2, h3⟩
    · refine .inr ⟨x, rfl, by simp, hx, fun z hz hp => ?_⟩
      rcases List.mem_append.1 hz with hz | hz
      · rw [h z hz] at hp; cases hp
      · rw [List.mem_singleton.1 hz]; exact Int.le_refl _
    · by_cases hs : x.seq < y.seq
      · refine .inr ⟨x, by simp [hs], by simp, hx, fun z hz hp => ?_⟩
        rcases List.mem_append.1 hz with hz | hz
        · have := h3 z hz hp; omega
        · rw [List.mem_singleton.1 hz]; exact Int.le_refl _
      · refine .inr ⟨y, by simp [hs], by simp [h1], h2, fun z hz hp => ?_⟩
        rcases List.mem_append.1 hz with hz | hz
        · exact h3 z hz hp
        · rw [List.mem_singleton.1 hz]; omega
theorem bestP_from (key : Int × List UInt8) : ∀ (l D : List En) (b : Option En), BestP D key b → BestP (D ++ l) key (l.foldl (bestS key) b)
  | [], D, b, h => by simpa using h
  | x :: l, D, b, h => by
    have := bestP_from key l (D ++ [x]) _ (bestP_step h x)
    simpa using this
theorem bestP_of (D : List En) (key : Int × List UInt8) : BestP D key (best D key) := by
  have := bestP_from key D [] none (.inl ⟨rfl, fun y hy => by cases hy⟩)
  simpa [best] using this
theorem dist_eq {D : List En} (h : DistE D) {x y : En} (hx : x ∈ D) (hy : y ∈ D) (he : keyE x = keyE y) : x = y := by
  obtain ⟨i, hi, rfl⟩ := List.mem_iff_getElem.1 hx
  obtain ⟨j, hj, rfl⟩ := List.mem_iff_getElem.1 hy
  have hp := List.pairwise_iff_getElem.1 h
  rcases Nat.lt_trichotomy i j with hlt | rfl | hlt
  · exact absurd he (hp i j hi hj hlt)
  · rfl
  · exact absurd he.symm (hp j i hj hi hlt)
theorem best_perm {D D' : List En} (hp : D.Perm D') (hd : DistE D) (key : Int × List UInt8) : best D key = best D' key := by
  rcases bestP_of D key with ⟨h1, h2⟩ | ⟨x, h1, h2, h3, h4⟩
  · rcases bestP_of D' key with ⟨k1, k2⟩ | ⟨y, k1, k2, k3, k4⟩
    · rw [h1, k1]
    · have := h2 y (hp.mem_iff.2 k2); rw [k3] at this; cases this
  · rcases bestP_of D' key with ⟨k1, k2⟩ | ⟨y, k1, k2, k3, k4⟩
    · have := k2 x (hp.mem_iff.1 h2); rw [h3] at this; cases this
    · rw [h1, k1]
      have e1 := h4 y (hp.mem_iff.2 k2) k3
      have e2 := k4 x (hp.mem_iff.1 h2) h3
      have e3 : keyA x = key := by rw [Bool.and_eq_true, beq_iff_eq] at h3; exact h3.2
      have e4 : keyA y = key := by rw [Bool.and_eq_true, beq_iff_eq] at k3; exact k3.2
      have e5 : x.dev = y.dev := by have := congrArg Prod.fst (e3.trans e4.symm); exact this
      rw [dist_eq hd h2 (hp.mem_iff.2 k2) (Prod.ext e5 (show x.seq = y.seq by omega))]
theorem ppL_perm {D D' : List En} (hp : D.Perm D') (hd : DistE D') : ppL D = ppL D' :=
  sort_one (pps_keyI hd) ((sortP_perm _).trans (hp.filterMap decM)) (sortP_pw _)
theorem reply_perm {D D' : List En} (hp : D.Perm D') (hd : DistE D) : replyOf D = replyOf D' := by
  funext p d
  rw [replyOf, replyOf, best_perm hp hd]
section
variable {D D' : List En} (hp : D.Perm D') (hd : DistE D) (hd' : DistE D')
include hp hd hd'
theorem pendL_perm (V u : Int) : pendL D V u = pendL D' V u := by
  have e : pendN D u = pendN D' u := by funext p; rw [pendN, pendN, reply_perm hp hd]
  rw [pendL, pendL, ofL, ofL, ppL_perm hp hd', e]
theorem condL_perm (V u : Int) : condL D V u = condL D' V u := by
  have e : condN D u = condN D' u := by funext p; rw [condN, condN, reply_perm hp hd]
  rw [condL, condL, strL, strL, ofL, ofL, ppL_perm hp hd', e]
theorem dropL_perm (V : Int) (ex : List Int) : dropL D V ex = dropL D' V ex := by
  have e : (fun p => stateOf D p ex == 3) = fun p => stateOf D' p ex == 3 := by funext p; rw [stateOf, stateOf, reply_perm hp hd]
  rw [dropL, dropL, strL, strL, ofL, ofL, ppL_perm hp hd', e]
end
theorem un_all {es : List En} (h : DistE es) (V u : Int) (ex : List Int) : pendL (dd es) V u = pendL (dd es.reverse) V u ∧ condL (dd es) V u = condL (dd es.reverse) V u ∧ dropL (dd es) V ex = dropL (dd es.reverse) V ex := by
  have h2 := dist_rev h
  rw [dd_self h, dd_self h2]
  have hp : es.Perm es.reverse := (List.reverse_perm es).symm
  exact ⟨pendL_perm hp h h2 V u, condL_perm hp h h2 V u, dropL_perm hp h h2 V ex⟩
end Go.Proofs.YtfonbliomokffaaGreat
