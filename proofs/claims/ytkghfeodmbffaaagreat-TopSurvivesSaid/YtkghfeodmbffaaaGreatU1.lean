/- Several texts in one: Ub, Uc, Ud, Ue. -/
import Derived.Test.YtkghfeodmbffaaaGreatC5
import Derived.Test.YtkghfeodmbffaaaGreatC12
import Derived.Test.YtkghfeodmbffaaaGreatC13
/- How holdings lie in memory; survival's Check, Worst. -/
namespace Go.Proofs.YtkghfeodmbffaaaGreat
open Go Go.RowKit Go.Shelf Gf Sha

abbrev hoC (h : Ho) (A : Option Addr) (n c : Nat) : List Value := [.int .i64 h.da, .slice A n c]
def rHo : Rdg Ho := fun w cs h => ∃ A n c, cs = hoC h A n c ∧ LS rInt 1 8 w A n c h.dv ∧ wfI h.da
theorem stay_ho : Stay rHo := fun _ _ _ _ ⟨A, n, c, e, h1, h2⟩ hb => ⟨A, n, c, e, h1.kept stay_int hb, h2⟩
theorem len_ho {w : World} (cs : List Value) (x : Ho) (h : rHo w cs x) : cs.length = 2 := by obtain ⟨A, n, c, rfl, _⟩ := h; rfl
theorem one_ho (x : Ho) (A : Option Addr) (n c : Nat) : ∀ v ∈ hoC x A n c, v.oneCell' = true := fun v hv => by
  simp only [List.mem_cons, List.not_mem_nil, or_false] at hv
  rcases hv with rfl | rfl <;> rfl
def hoZ : List Value := [.int .i64 0, .slice none 0 0]
theorem hoZero : (Tryz.prog.info? 49).map (·.zero) = some (some (.agg hoZ.toArray)) := by kernel_rfl
theorem infoHo : (Tryz.prog.info? 49).map (fun i => (i.zero, i.size, i.bytes)) = some (some (.agg hoZ.toArray), 2, 32) := by kernel_rfl
section
set_option maxRecDepth 100000
set_option maxHeartbeats 4000000
theorem vdev_any {d : Int} (h : 0 ≤ d ∧ d < 12) (w : World) : Calls Tryz.prog 25 #[.int .i64 d] w fun e w' => e = .returned (.bool true) ∧ w' = w := by
  have f1 : decide (d ≥ 0) = true := decide_eq_true h.1
  have f2 : decide (0 ≤ d) = true := f1
  have f3 : decide (d < 12) = true := decide_eq_true h.2
  go_enter Tryz.func25, Tryz.ntmps25
  go_wp2_with fail
  go_ret
  exact ⟨rfl, rfl⟩
theorem slack_any (x : Ho) (D : Option Addr) (m c : Nat) (w : World) (hx : HoOk x) (hd : LS rInt 1 8 w D m c x.dv) :
    Calls Tryz.prog 44 #[.agg (hoC x D m c).toArray] w fun e w' => e = .returned (.int .i64 (slackI x)) ∧ Below w.heap.size w w' := by
  have hm := hd.len_le
  have hl := hd.1
  have h1 := hx.d1
  have h2 := hx.d2
  have hsub : IntKind.i64.wrap ((m : Int) - x.da) = (m : Int) - x.da := IntWalk.i64_in _ (by omega)
  have HS : Hid (slackI x = (m : Int) - x.da) := Lib.hid (by unfold slackI; rw [hl])
  clear hx hd hl h1 h2
  go_enter Tryz.func44, Tryz.ntmps44
  go_wp2_with (first
    | ((with_reducible show wpList _ _ _ (⟨some 1, _, _, _, _, _⟩ :: _) _ _); refine wpList_box _ rfl 49 (.tmp 0) rfl (hoC x D m c) rfl ?_; intro w1 y1 y2 y3; have HB1 := Lib.hid y2; have q0 := y1.get (j := 0) rfl; have q1 := y1.get (j := 1) rfl; clear y1 y2 y3))
  go_ret
  exact ⟨by rw [HS.out]; rfl, HB1.out⟩
theorem scheck_any (A : Option Addr) (n c : Nat) (l : List Ho) (w : World) (h : LS rHo 2 32 w A n c l) (hok : ∀ x ∈ l, HoOk x) (hn : n ≤ 1024) :
    Calls Tryz.prog 9 #[.slice A n c] w fun e w' => e = .returned (.int .i64 0) ∧ Below w.heap.size w w' := by
  have f1 : decide ((n : Int) > 1024) = false := decide_eq_false (by omega)
  have f2 : decide (n > 1024) = false := decide_eq_false (by omega)
  have H := Lib.hid h
  have HOK := Lib.hid hok
  clear h hok
  go_enter Tryz.func9, Tryz.ntmps9
  go_wp2_with fail
  go_loopw [12] (fun iv wr => ∃ k : Nat, k ≤ n ∧ iv = .int .i64 (k : Int) ∧ Hid (Below w.heap.size w wr)) (fun iv _ => n - (intOf iv).toNat)
  case atStart => exact ⟨0, by omega, rfl, Lib.hid (Below.refl _ _)⟩
  case round =>
    obtain ⟨k, hk, rfl, hb⟩ := hrel
    obtain ⟨wx, hwx⟩ : ∃ x, x = wr := ⟨_, rfl⟩
    rw [← hwx] at hb ⊢
    clear hwx
    by_cases hlt : k < n
    · obtain ⟨x, g, o, cs, hs, ea, hat, hr⟩ := H.out.at_ stay_ho hb.out hlt
      obtain ⟨D, m, e, rfl, hd, _⟩ := hr
      have hx := HOK.out x (List.mem_of_getElem? hs)
      have d1 : decide (x.da < 1) = false := decide_eq_false (by have := hx.d1; omega)
      have d2 : decide (x.da > 12) = false := decide_eq_false (by have := hx.d2; omega)
      have HX := Lib.hid hx
      have HD := Lib.hid hd
      have hm := hd.len_le
      have HA := Lib.hid hat
      subst ea
      clear hs hat hd hx
      go_wp2_with (first
        | ((with_reducible show wpList _ _ _ (⟨some 15, _, _, _, _, _⟩ :: _) _ _); refine wpList_loadv _ rfl 49 (.tmp 14) rfl 2 (by kernel_rfl) g (o + k * 2) (hoC x D m e) (by go_simp) HA.out rfl ?_)
        | ((with_reducible show wpList _ _ _ (⟨some 4, _, _, _, _, _⟩ :: _) _ _); refine wpList_alloc _ rfl 49 rfl hoZ hoZero ?_; intro w3 a1 a2 a3; have HV3 := Lib.hid a1; have HX3 := Lib.hid a2; clear a1 a2 a3)
        | ((with_reducible show wpList _ _ _ (⟨none, _, _, _, _, _⟩ :: _) _ _); refine wpList_storev _ rfl 49 (.tmp 4) (.tmp 15) rfl 2 (by kernel_rfl) wx.heap.size 0 _ hoZ (hoC x D m e) rfl rfl HV3.out rfl (one_ho x D m e) (by decide) ?_; intro w4 a1 a2 a3; have HV4 : Hid (BL w4 wx.heap.size 49 (hoC x D m e)) := Lib.hid a1; have HX4 : Hid (Below wx.heap.size wx w4) := Lib.hid (((Kp.of_below (S := fun _ => False) HX3.out).after a2 (fun i hi e => by omega)).below (Nat.le_refl _) (fun _ h => h.elim)); clear a1 a2 a3; have HB4 := Lib.hid (below_thenB hb.out hb.out.size HX4.out); have q0 := HV4.out.get (j := 0) rfl; have q1 := HV4.out.get (j := 1) rfl)
        | fail)
      have HD4 := Lib.hid (HD.out.kept stay_int HX4.out)
      have HV := Lib.hid HV4.out
      clear q0 q1
      go_loopw [27] (fun iv wr => ∃ i : Nat, i ≤ m ∧ iv = .int .i64 (i : Int) ∧ Hid (Below w4.heap.size w4 wr)) (fun iv _ => m - (intOf iv).toNat)
      case atStart => exact ⟨0, by omega, rfl, Lib.hid (Below.refl _ _)⟩
      case round =>
        obtain ⟨i, hi, rfl, hb2⟩ := hrel
        obtain ⟨wy, hwy⟩ : ∃ x, x = wr := ⟨_, rfl⟩
        rw [← hwy] at hb2 ⊢
        clear hwy
        by_cases hl2 : i < m
        · obtain ⟨d, gd, od, hdi, eD, hc⟩ := HD4.out.int_at hb2.out hl2
          have HR := Lib.hid (HX.out.r d (List.mem_of_getElem? hdi))
          subst eD
          by_cases hi0 : i = 0
          · have g1 : decide ((i : Int) > 0) = false := decide_eq_false (by omega)
            have g4 : decide (i > 0) = false := decide_eq_false (by omega)
            clear hi0
            go_wp2_with (first
              | (go_at_call 25; refine (vdev_any HR.out _).mono ?_; rintro e9 w9 ⟨rfl, rfl⟩))
            go_roundw
            case rel => exact ⟨i + 1, by omega, by go_num, hb2⟩
            case measure => simp [intOf]; omega
          · obtain ⟨j, hie⟩ : ∃ j, i = j + 1 := ⟨i - 1, by omega⟩
            clear hi0
            have hj : j < m := by omega
            obtain ⟨d', gd', od', hdj, eD', hc'⟩ := HD4.out.int_at hb2.out hj
            cases eD'
            have hlt9 : d' < d := by
              obtain ⟨h1, e1⟩ := List.getElem?_eq_some_iff.1 hdi
              obtain ⟨h2, e2⟩ := List.getElem?_eq_some_iff.1 hdj
              have := List.pairwise_iff_getElem.1 HX.out.a j i h2 h1 (by omega)
              rw [e1, e2] at this
              exact this
            have g1 : decide ((i : Int) > 0) = true := decide_eq_true (by omega)
            have g2 : decide (d' ≥ d) = false := decide_eq_false (by omega)
            have g3 : decide (d ≤ d') = false := g2
            have g4 : decide (i > 0) = true := decide_eq_true (by omega)
            have hwj : IntKind.i64.wrap ((i : Int) - 1) = (j : Int) := by rw [IntWalk.i64_in _ (by omega)]; omega
            have hjI : (j : Int) < (m : Int) := by omega
            have q1 := (HV.out.kept hb2.out).get (j := 1) rfl
            clear hlt9 hdi hdj hie
            go_wp2_with (first
              | (go_at_call 25; refine (vdev_any HR.out _).mono ?_; rintro e9 w9 ⟨rfl, rfl⟩))
            go_roundw
            case rel => exact ⟨i + 1, by omega, by go_num, hb2⟩
            case measure => simp [intOf]; omega
        · obtain rfl : i = m := by omega
          go_wp2_with fail
          go_roundw
          case rel => exact ⟨k + 1, by omega, by go_num, Lib.hid (below_then HB4.out hb2.out)⟩
          case measure => simp [intOf]; omega
    · obtain rfl : k = n := by omega
      go_wp2_with fail
      go_ret
      exact ⟨rfl, hb.out⟩
def worstF (l : List Ho) : Int := l.foldl (fun a h => min a (slackI h)) 12
theorem worst_next {l : List Ho} {k : Nat} {x : Ho} (h : l[k]? = some x) : worstF (l.take (k + 1)) = min (worstF (l.take k)) (slackI x) := by
  unfold worstF
  rw [take_next h, List.foldl_append]; rfl
theorem worst_any (A : Option Addr) (n c : Nat) (l : List Ho) (w : World) (h : LS rHo 2 32 w A n c l) (hok : ∀ x ∈ l, HoOk x) :
    Calls Tryz.prog 24 #[.slice A n c] w fun e w' => e = .returned (.int .i64 (worstI l)) ∧ Below w.heap.size w w' := by
  have hn := h.len_le
  have H := Lib.hid h
  have HL := Lib.hid h.1
  have HOK := Lib.hid hok
  have HW : Hid (worstI l = max (worstF l) (-1)) := Lib.hid rfl
  clear h hok
  go_enter Tryz.func24, Tryz.ntmps24
  go_wp2_with fail
  go_loopw [3, 8] (fun s iv wr => ∃ k : Nat, k ≤ n ∧ iv = .int .i64 (k : Int) ∧ s = .int .i64 (worstF (l.take k)) ∧ Hid (Below w.heap.size w wr)) (fun _ iv _ => n - (intOf iv).toNat)
  case atStart => exact ⟨0, by omega, rfl, rfl, Lib.hid (Below.refl _ _)⟩
  case round =>
    obtain ⟨k, hk, rfl, rfl, hb⟩ := hrel
    obtain ⟨wx, hwx⟩ : ∃ x, x = wr := ⟨_, rfl⟩
    rw [← hwx] at hb ⊢
    clear hwx
    by_cases hlt : k < n
    · obtain ⟨x, g, o, cs, hs, ea, hat, hr⟩ := H.out.at_ stay_ho hb.out hlt
      obtain ⟨D, m, e, rfl, hd, _⟩ := hr
      have HX := Lib.hid (HOK.out x (List.mem_of_getElem? hs))
      have HD := Lib.hid hd
      have HA := Lib.hid hat
      have HNX := Lib.hid (worst_next hs)
      obtain ⟨U, hU⟩ : ∃ U, U = worstF (l.take k) := ⟨_, rfl⟩
      rw [← hU] at HNX ⊢
      obtain ⟨V, hV⟩ : ∃ V, V = slackI x := ⟨_, rfl⟩
      have HVV := Lib.hid hV
      subst ea
      clear hs hat hd hU hV
      go_wp2_with (first
        | ((with_reducible show wpList _ _ _ (⟨some 11, _, _, _, _, _⟩ :: _) _ _); refine wpList_loadv _ rfl 49 (.tmp 10) rfl 2 (by kernel_rfl) g (o + k * 2) (hoC x D m e) (by go_simp) HA.out rfl ?_)
        | ((with_reducible show wpList _ _ _ (⟨some 5, _, _, _, _, _⟩ :: _) _ _); refine wpList_alloc _ rfl 49 rfl hoZ hoZero ?_; intro w3 a1 a2 a3; have HV3 := Lib.hid a1; have HX3 := Lib.hid a2; clear a1 a2 a3)
        | ((with_reducible show wpList _ _ _ (⟨none, _, _, _, _, _⟩ :: _) _ _); refine wpList_storev _ rfl 49 (.tmp 5) (.tmp 11) rfl 2 (by kernel_rfl) wx.heap.size 0 _ hoZ (hoC x D m e) rfl rfl HV3.out rfl (one_ho x D m e) (by decide) ?_; intro w4 a1 a2 a3; have HV4 : Hid (BL w4 wx.heap.size 49 (hoC x D m e)) := Lib.hid a1; have HX4 : Hid (Below wx.heap.size wx w4) := Lib.hid (((Kp.of_below (S := fun _ => False) HX3.out).after a2 (fun i hi e => by omega)).below (Nat.le_refl _) (fun _ h => h.elim)); clear a1 a2 a3; have HB4 := Lib.hid (below_thenB hb.out hb.out.size HX4.out))
        | ((with_reducible show wpList _ _ _ (⟨some 13, _, _, _, _, _⟩ :: _) _ _); refine wpList_loadv _ rfl 49 (.tmp 5) rfl 2 (by kernel_rfl) wx.heap.size 0 (hoC x D m e) rfl (BL.all HV4.out) rfl ?_)
        | (go_at_call 44; refine (slack_any x D m e w4 HX.out (HD.out.kept stay_int HX4.out)).mono ?_; rintro e9 w5 ⟨rfl, r2⟩; rw [← HVV.out]; have HB5 := Lib.hid (below_then HB4.out r2); clear r2))
      go_roundw
      case rel => exact ⟨k + 1, by omega, by go_num, by rw [HNX.out, ← HVV.out], HB5⟩
      case measure => simp [intOf]; omega
    · obtain rfl : k = n := by omega
      have HT : Hid (l.take k = l) := Lib.hid (take_end HL.out)
      go_wp2_with fail
      go_ret
      exact ⟨by rw [HW.out, HT.out]; rfl, hb.out⟩
theorem Worst_any (A : Option Addr) (n c : Nat) (l : List Ho) (w : World) (h : LS rHo 2 32 w A n c l) (hok : ∀ x ∈ l, HoOk x) (hn : n ≤ 1024) :
    Calls Tryz.prog 8 #[.slice A n c] w fun e w' => e = .returned (.tuple #[.int .i64 (worstI l), .int .i64 0]) ∧ Below w.heap.size w w' := by
  have H := Lib.hid h
  have HOK := Lib.hid hok
  have HN := Lib.hid hn
  clear h hok hn
  go_enter Tryz.func8, Tryz.ntmps8
  go_wp2_with (first
    | (go_at_call 9; refine (scheck_any A n c l w H.out HOK.out HN.out).mono ?_; rintro e9 w1 ⟨rfl, r2⟩; have HB1 := Lib.hid r2; clear r2)
    | (go_at_call 24; refine (worst_any A n c l w1 (H.out.kept stay_ho HB1.out) HOK.out).mono ?_; rintro e9 w2 ⟨rfl, r2⟩; have HB2 := Lib.hid (below_then HB1.out r2); clear r2))
  go_ret2
  exact ⟨rfl, HB2.out⟩
end
end Go.Proofs.YtkghfeodmbffaaaGreat
/- survival's Lost, Survives. -/
namespace Go.Proofs.YtkghfeodmbffaaaGreat
open Go Go.RowKit Go.Shelf Gf Sha

theorem low_kp {S : Nat → Prop} {w0 w w' : World} (h : Below w0.heap.size w0 w) (hk : Kp S w w') (hS : ∀ i, i < w0.heap.size → ¬ S i) : Below w0.heap.size w0 w' :=
  ((Kp.of_below (S := fun _ => False) h).after hk (fun i hi e => hS i hi e)).below (Nat.le_refl _) (fun _ h => h.elim)
/-- The devices that are lost, as the program keeps them. -/
def gonL (S : List Int) : List Value := (List.range 12).map (fun i : Nat => Value.bool (decide ((i : Int) ∈ S)))
theorem gonL_len (S : List Int) : (gonL S).length = 12 := by simp [gonL]
theorem gonL_at (S : List Int) {q : Nat} (h : q < 12) : (gonL S)[q]? = some (.bool (decide ((q : Int) ∈ S))) := by
  unfold gonL
  rw [List.getElem?_map, List.getElem?_range h]; rfl
theorem gonL_set (S : List Int) (q : Nat) : (gonL S).set q (.bool true) = gonL (S ++ [(q : Int)]) := by
  refine List.ext_getElem? (fun i => ?_)
  by_cases hi : i < 12
  · rw [gonL_at _ hi, List.getElem?_set]
    by_cases e : q = i
    · subst e
      rw [if_pos rfl, if_pos (by rw [gonL_len]; exact hi)]
      simp
    · rw [if_neg e, gonL_at _ hi]
      congr 2
      refine decide_eq_decide.2 ?_
      rw [List.mem_append, List.mem_singleton]
      constructor
      · exact .inl
      · rintro (h | h)
        · exact h
        · omega
  · rw [List.getElem?_eq_none (by rw [List.length_set, gonL_len]; omega), List.getElem?_eq_none (by rw [gonL_len]; omega)]
theorem setZero : (Tryz.prog.info? 100).map (·.zero) = some (some (.agg (gonL []).toArray)) := by kernel_rfl
theorem szBool17 : (Tryz.prog.info? 4).map (·.size) = some 1 := by kernel_rfl
theorem szFnB : (Tryz.prog.info? 51).map (·.size) = some 1 := by kernel_rfl
theorem live_next {S l : List Int} {k : Nat} {d : Int} (h : l[k]? = some d) : liveN S (l.take (k + 1)) = if d ∈ S then liveN S (l.take k) else liveN S (l.take k) + 1 := by
  unfold liveN
  rw [take_next h, List.foldl_append]; rfl
theorem live_rng (S : List Int) (l : List Int) : 0 ≤ liveN S l ∧ liveN S l ≤ (l.length : Int) := by
  rw [live_filter]
  have := List.length_filter_le (fun d => decide (d ∉ S)) l
  omega
abbrev gonF (gs : Nat) : Value := .func (.func 47) #[] #[.pointer (some ⟨gs, 0, none⟩)]
section
set_option maxRecDepth 100000
set_option maxHeartbeats 4000000
theorem sleft_any (gs : Nat) (S : List Int) (d : Int) (w : World) (hs : BL w gs 100 (gonL S)) (h : 0 ≤ d ∧ d < 12) :
    Calls Tryz.prog 47 #[.int .i64 d, .pointer (some ⟨gs, 0, none⟩)] w fun e w' => e = .returned (.bool (!decide (d ∈ S))) ∧ w' = w := by
  obtain ⟨q, rfl⟩ : ∃ q : Nat, d = (q : Int) := ⟨d.toNat, by omega⟩
  have hq : q < 12 := by omega
  have q0 : w.cell? ⟨gs, q, none⟩ = some (.bool (decide ((q : Int) ∈ S))) := hs.get (j := q) (gonL_at S hq)
  have hqI : (q : Int) < 12 := h.2
  clear hs h
  go_enter Tryz.func47, Tryz.ntmps47
  go_wp2_with fail
  go_ret
  exact ⟨rfl, rfl⟩
theorem survives_any (gs : Nat) (S : List Int) (x : Ho) (D : Option Addr) (m c : Nat) (w : World) (hs : BL w gs 100 (gonL S)) (hx : HoOk x) (hd : LS rInt 1 8 w D m c x.dv) :
    Calls Tryz.prog 50 #[.agg (hoC x D m c).toArray, gonF gs] w fun e w' => e = .returned (.bool (survB S x)) ∧ Below w.heap.size w w' := by
  have hm := hd.len_le
  have HD := Lib.hid hd
  have HL := Lib.hid hd.1
  have HS := Lib.hid hs
  have HX := Lib.hid hx
  have EF : Hid (∀ args w, (callFunc 47 args).run Tryz.prog w = .ok (.enter 47 args) w) := Lib.hid (enters_of Tryz.func47 (by kernel_rfl) rfl)
  clear hd hs hx
  go_enter Tryz.func50, Tryz.ntmps50
  go_wp2_with (first
    | ((with_reducible show wpList _ _ _ (⟨some 2, _, _, _, _, _⟩ :: _) _ _); refine wpList_box _ rfl 49 (.tmp 0) rfl (hoC x D m c) rfl ?_; intro w1 y1 y2 y3; have HV1 := Lib.hid y1; have HB1 := Lib.hid y2; have q1 := y1.get (j := 1) rfl; clear y1 y2 y3))
  clear q1
  go_loopw [5, 11] (fun s iv wr => ∃ k : Nat, k ≤ m ∧ iv = .int .i64 (k : Int) ∧ s = .int .i64 (liveN S (x.dv.take k)) ∧ wr = w1) (fun _ iv _ => m - (intOf iv).toNat)
  case atStart => exact ⟨0, by omega, rfl, rfl, rfl⟩
  case round =>
    obtain ⟨k, hk, rfl, rfl, rfl⟩ := hrel
    by_cases hlt : k < m
    · obtain ⟨d, gd, od, hdk, eD, hc⟩ := HD.out.int_at HB1.out hlt
      have HR := Lib.hid (HX.out.r d (List.mem_of_getElem? hdk))
      have HN := Lib.hid (live_next (S := S) hdk)
      have hlr := live_rng S (x.dv.take k)
      have hlk : (x.dv.take k).length ≤ k := by rw [List.length_take]; omega
      obtain ⟨U, hU⟩ : ∃ U, U = liveN S (x.dv.take k) := ⟨_, rfl⟩
      rw [← hU] at HN hlr ⊢
      have hwr9 : IntKind.i64.wrap (U + 1) = U + 1 := IntWalk.i64_in _ (by omega)
      have HLF := Lib.hid (sleft_any gs S d wr (HS.out.kept HB1.out) HR.out)
      subst eD
      clear hdk hU hlr hlk
      cases hm9 : decide (d ∈ S) with
      | true =>
        rw [hm9] at HLF
        have HN2 : Hid (liveN S (x.dv.take (k + 1)) = U) := Lib.hid (by rw [HN.out, if_pos (of_decide_eq_true hm9)])
        clear hm9
        go_wp2_with (first
          | ((with_reducible show wpList _ _ _ (⟨some 17, _, _, _, _, _⟩ :: _) _ _); refine wpList_plain rfl fun K hK => ?_; refine wp_callV (x := .tmp 15) (args := #[.int .i64 d]) (lb := #[.pointer (some ⟨gs, 0, none⟩)]) (R := fun v w9 => v = .bool false ∧ w9 = wr) rfl rfl EF.out (by rw [List.map_toArray]; rfl) (HLF.out.mono (fun e9 w9 h9 => ⟨_, h9.1, rfl, h9.2⟩)) ?_; rintro v9 w9 ⟨rfl, rfl⟩; refine hK _ _ ?_; clear hK K))
        go_roundw
        case rel => exact ⟨k + 1, by omega, by go_num, by rw [HN2.out], trivial⟩
        case measure => simp [intOf]; omega
      | false =>
        rw [hm9] at HLF
        have HN2 : Hid (liveN S (x.dv.take (k + 1)) = U + 1) := Lib.hid (by rw [HN.out, if_neg (of_decide_eq_false hm9)])
        clear hm9
        go_wp2_with (first
          | ((with_reducible show wpList _ _ _ (⟨some 17, _, _, _, _, _⟩ :: _) _ _); refine wpList_plain rfl fun K hK => ?_; refine wp_callV (x := .tmp 15) (args := #[.int .i64 d]) (lb := #[.pointer (some ⟨gs, 0, none⟩)]) (R := fun v w9 => v = .bool true ∧ w9 = wr) rfl rfl EF.out (by rw [List.map_toArray]; rfl) (HLF.out.mono (fun e9 w9 h9 => ⟨_, h9.1, rfl, h9.2⟩)) ?_; rintro v9 w9 ⟨rfl, rfl⟩; refine hK _ _ ?_; clear hK K))
        go_roundw
        case rel => exact ⟨k + 1, by omega, by go_num, by rw [HN2.out], trivial⟩
        case measure => simp [intOf]; omega
    · obtain rfl : k = m := by omega
      have q0 := HV1.out.get (j := 0) rfl
      rw [take_end HL.out]
      obtain ⟨U, hU⟩ : ∃ U, U = liveN S x.dv := ⟨_, rfl⟩
      have HU := Lib.hid hU
      rw [← hU]
      clear hU
      have HSB : Hid (survB S x = decide (x.da ≤ U)) := Lib.hid (by rw [HU.out]; rfl)
      go_wp2_with fail
      go_ret
      exact ⟨by rw [HSB.out]; rfl, HB1.out⟩
theorem lost2_any (gl gs : Nat) (S : List Int) (x : Ho) (D : Option Addr) (m c : Nat) (w : World) (hl : BL w gl 51 [gonF gs]) (hs : BL w gs 100 (gonL S)) (hx : HoOk x) (hd : LS rInt 1 8 w D m c x.dv) :
    Calls Tryz.prog 49 #[.agg (hoC x D m c).toArray, .pointer (some ⟨gl, 0, none⟩)] w fun e w' => e = .returned (.bool (!survB S x)) ∧ Below w.heap.size w w' := by
  have HD := Lib.hid hd
  have HL := Lib.hid hl
  have HS := Lib.hid hs
  have HX := Lib.hid hx
  clear hd hs hx hl
  go_enter Tryz.func49, Tryz.ntmps49
  go_wp2_with (first
    | ((with_reducible show wpList _ _ _ (⟨some 2, _, _, _, _, _⟩ :: _) _ _); refine wpList_box _ rfl 49 (.tmp 0) rfl (hoC x D m c) rfl ?_; intro w1 y1 y2 y3; have HV1 := Lib.hid y1; have HB1 := Lib.hid y2; have ql := (HL.out.kept y2).get (j := 0) rfl; clear y1 y2 y3)
    | ((with_reducible show wpList _ _ _ (⟨some 4, _, _, _, _, _⟩ :: _) _ _); refine wpList_loadv _ rfl 49 (.tmp 2) rfl 2 (by kernel_rfl) w.heap.size 0 (hoC x D m c) rfl (BL.all HV1.out) rfl ?_)
    | (go_at_call 50; refine (survives_any gs S x D m c w1 (HS.out.kept HB1.out) HX.out (HD.out.kept stay_int HB1.out)).mono ?_; rintro e9 w2 ⟨rfl, r2⟩; have HB2 := Lib.hid (below_then HB1.out r2); clear r2))
  go_ret
  exact ⟨rfl, HB2.out⟩
theorem indices_any (gl gs : Nat) (S : List Int) (A : Option Addr) (n c : Nat) (l : List Ho) (w : World) (hl : BL w gl 51 [gonF gs]) (hs : BL w gs 100 (gonL S)) (h : LS rHo 2 32 w A n c l) (hok : ∀ x ∈ l, HoOk x) (hn : n ≤ 1024) :
    Calls Tryz.prog 48 #[.slice A n c, .func (.func 49) #[] #[.pointer (some ⟨gl, 0, none⟩)]] w fun e w' => ∃ A' n' c', e = .returned (.slice A' n' c') ∧ (l.all (survB S) = decide (n' = 0)) ∧ Below w.heap.size w w' := by
  have H := Lib.hid h
  have HLN := Lib.hid h.1
  have HL := Lib.hid hl
  have HS := Lib.hid hs
  have HOK := Lib.hid hok
  have EF : Hid (∀ args w, (callFunc 49 args).run Tryz.prog w = .ok (.enter 49 args) w) := Lib.hid (enters_of Tryz.func49 (by kernel_rfl) rfl)
  clear h hs hok hl
  go_enter Tryz.func48, Tryz.ntmps48
  go_wp2_with fail
  go_loopw [5, 10] (fun v iv wr => ∃ (k : Nat) (L : List Int), k ≤ n ∧ iv = .int .i64 (k : Int) ∧ Hid (OwnI wr w.heap.size v L) ∧ Hid (L.length ≤ k) ∧ Hid ((l.take k).all (survB S) = decide (L.length = 0)) ∧ Hid (Below w.heap.size w wr)) (fun _ iv _ => n - (intOf iv).toNat)
  case atStart => exact ⟨0, [], by omega, rfl, Lib.hid (OwnI.nil _ _), Lib.hid (Nat.le_refl _), Lib.hid rfl, Lib.hid (Below.refl _ _)⟩
  case round =>
    obtain ⟨k, L, hk, rfl, ho, hll, hal, hb⟩ := hrel
    obtain ⟨wx, hwx⟩ : ∃ x, x = wr := ⟨_, rfl⟩
    rw [← hwx] at ho hb ⊢
    clear hwx
    by_cases hlt : k < n
    · obtain ⟨x, g, o, cs, hs, ea, hat, hr⟩ := H.out.at_ stay_ho hb.out hlt
      obtain ⟨D, m, e, rfl, hd, _⟩ := hr
      have HX := Lib.hid (HOK.out x (List.mem_of_getElem? hs))
      have HD := Lib.hid hd
      have HA := Lib.hid hat
      have HNX : Hid ((l.take (k + 1)).all (survB S) = ((l.take k).all (survB S) && survB S x)) := Lib.hid (by rw [take_next hs, List.all_append]; simp)
      subst ea
      clear hs hat hd
      cases hsv : survB S x with
      | true =>
        have HNX2 : Hid ((l.take (k + 1)).all (survB S) = decide (L.length = 0)) := Lib.hid (by rw [HNX.out, hsv, Bool.and_true]; exact hal.out)
        have HSV := Lib.hid hsv
        clear hsv
        go_wp2_with (first
          | ((with_reducible show wpList _ _ _ (⟨some 14, _, _, _, _, _⟩ :: _) _ _); refine wpList_loadv _ rfl 49 (.tmp 13) rfl 2 (by kernel_rfl) g (o + k * 2) (hoC x D m e) (by go_simp) HA.out rfl ?_)
          | ((with_reducible show wpList _ _ _ (⟨some 7, _, _, _, _, _⟩ :: _) _ _); refine wpList_alloc _ rfl 49 rfl hoZ hoZero ?_; intro w3 a1 a2 a3; have HV3 := Lib.hid a1; have HX3 := Lib.hid a2; clear a1 a2 a3)
          | ((with_reducible show wpList _ _ _ (⟨none, _, _, _, _, _⟩ :: _) _ _); refine wpList_storev _ rfl 49 (.tmp 7) (.tmp 14) rfl 2 (by kernel_rfl) wx.heap.size 0 _ hoZ (hoC x D m e) rfl rfl HV3.out rfl (one_ho x D m e) (by decide) ?_; intro w4 a1 a2 a3; have HV4 : Hid (BL w4 wx.heap.size 49 (hoC x D m e)) := Lib.hid a1; have HX4 : Hid (Below wx.heap.size wx w4) := Lib.hid (((Kp.of_below (S := fun _ => False) HX3.out).after a2 (fun i hi e => by omega)).below (Nat.le_refl _) (fun _ h => h.elim)); clear a1 a2 a3; have HB4 := Lib.hid (below_thenB hb.out hb.out.size HX4.out))
          | ((with_reducible show wpList _ _ _ (⟨some 16, _, _, _, _, _⟩ :: _) _ _); refine wpList_loadv _ rfl 49 (.tmp 7) rfl 2 (by kernel_rfl) wx.heap.size 0 (hoC x D m e) rfl (BL.all HV4.out) rfl ?_)
          | ((with_reducible show wpList _ _ _ (⟨some 17, _, _, _, _, _⟩ :: _) _ _); refine wpList_plain rfl fun K hK => ?_; refine wp_callV (x := .tmp 15) (args := #[.agg (hoC x D m e).toArray]) (lb := #[.pointer (some ⟨gl, 0, none⟩)]) (R := fun v w9 => v = .bool false ∧ Below w4.heap.size w4 w9) rfl rfl EF.out (by rw [List.map_toArray]; rfl) ((lost2_any gl gs S x D m e w4 (HL.out.kept HB4.out) (HS.out.kept HB4.out) HX.out (HD.out.kept stay_int HX4.out)).mono (fun e9 w9 h9 => ⟨_, h9.1, by rw [HSV.out]; rfl, h9.2⟩)) ?_; rintro v9 w9 ⟨rfl, r9⟩; refine hK _ _ ?_; clear hK K; have HB9 := Lib.hid (below_then HB4.out r9); have HO9 := Lib.hid ((ho.out.kept HX4.out).kept r9); clear r9))
        go_roundw
        case rel => exact ⟨k + 1, L, by omega, by go_num, HO9, Lib.hid (by have := hll.out; omega), HNX2, HB9⟩
        case measure => simp [intOf]; omega
      | false =>
        have HNX2 : Hid ((l.take (k + 1)).all (survB S) = decide ((L ++ [(k : Int)]).length = 0)) := Lib.hid (by rw [HNX.out, hsv, Bool.and_false, List.length_append, List.length_singleton, decide_eq_false (by omega)])
        have HSV := Lib.hid hsv
        clear hsv
        go_wp2_with (first
          | ((with_reducible show wpList _ _ _ (⟨some 14, _, _, _, _, _⟩ :: _) _ _); refine wpList_loadv _ rfl 49 (.tmp 13) rfl 2 (by kernel_rfl) g (o + k * 2) (hoC x D m e) (by go_simp) HA.out rfl ?_)
          | ((with_reducible show wpList _ _ _ (⟨some 7, _, _, _, _, _⟩ :: _) _ _); refine wpList_alloc _ rfl 49 rfl hoZ hoZero ?_; intro w3 a1 a2 a3; have HV3 := Lib.hid a1; have HX3 := Lib.hid a2; clear a1 a2 a3)
          | ((with_reducible show wpList _ _ _ (⟨none, _, _, _, _, _⟩ :: _) _ _); refine wpList_storev _ rfl 49 (.tmp 7) (.tmp 14) rfl 2 (by kernel_rfl) wx.heap.size 0 _ hoZ (hoC x D m e) rfl rfl HV3.out rfl (one_ho x D m e) (by decide) ?_; intro w4 a1 a2 a3; have HV4 : Hid (BL w4 wx.heap.size 49 (hoC x D m e)) := Lib.hid a1; have HX4 : Hid (Below wx.heap.size wx w4) := Lib.hid (((Kp.of_below (S := fun _ => False) HX3.out).after a2 (fun i hi e => by omega)).below (Nat.le_refl _) (fun _ h => h.elim)); clear a1 a2 a3; have HB4 := Lib.hid (below_thenB hb.out hb.out.size HX4.out))
          | ((with_reducible show wpList _ _ _ (⟨some 16, _, _, _, _, _⟩ :: _) _ _); refine wpList_loadv _ rfl 49 (.tmp 7) rfl 2 (by kernel_rfl) wx.heap.size 0 (hoC x D m e) rfl (BL.all HV4.out) rfl ?_)
          | ((with_reducible show wpList _ _ _ (⟨some 17, _, _, _, _, _⟩ :: _) _ _); refine wpList_plain rfl fun K hK => ?_; refine wp_callV (x := .tmp 15) (args := #[.agg (hoC x D m e).toArray]) (lb := #[.pointer (some ⟨gl, 0, none⟩)]) (R := fun v w9 => v = .bool true ∧ Below w4.heap.size w4 w9) rfl rfl EF.out (by rw [List.map_toArray]; rfl) ((lost2_any gl gs S x D m e w4 (HL.out.kept HB4.out) (HS.out.kept HB4.out) HX.out (HD.out.kept stay_int HX4.out)).mono (fun e9 w9 h9 => ⟨_, h9.1, by rw [HSV.out]; rfl, h9.2⟩)) ?_; rintro v9 w9 ⟨rfl, r9⟩; refine hK _ _ ?_; clear hK K; have HB9 := Lib.hid (below_then HB4.out r9); have HO9 := Lib.hid ((ho.out.kept HX4.out).kept r9); clear r9)
          | ((with_reducible show wpList _ _ _ (⟨some 20, _, _, _, _, _⟩ :: _) _ _); refine wpList_bslice _ rfl 24 3 1 _ rfl #[(0, .int .i64 (k : Int))] (by rw [List.map_toArray]; rfl) [.int .i64 (k : Int)] (bslI _ _) ?_; intro w6 a1 a2 a3; have HG6 := Lib.hid a1; have HX6 : Hid (Below w9.heap.size w9 w6) := Lib.hid a2; clear a1 a2 a3)
          | ((with_reducible show wpList _ _ _ (⟨some 21, _, _, _, _, _⟩ :: _) _ _); refine wpList_pushI rfl (.tmp 18) (.tmp 20) rfl w.heap.size _ _ rfl (HO9.out.kept HX6.out) (by have := HB9.out.size; have := HX6.out.size; omega) w9.heap.size (k : Int) rfl HG6.out (by have := hll.out; omega) ?_; intro v' w7 a1 a2; have HO7 := Lib.hid a1; have HB7 : Hid (Below w.heap.size w w7) := Lib.hid (low_kp (below_thenB HB9.out HB9.out.size HX6.out) a2.kp (fun i hi e => by have := HO9.out.2 i e; omega)); clear a1 a2))
        go_roundw
        case rel => exact ⟨k + 1, L ++ [(k : Int)], by omega, by go_num, HO7, Lib.hid (by rw [List.length_append, List.length_singleton]; have := hll.out; omega), HNX2, HB7⟩
        case measure => simp [intOf]; omega
    · obtain rfl : k = n := by omega
      rw [take_end HLN.out] at hal
      obtain ⟨A', c', ev, _⟩ := ho.out.1.form
      subst ev
      obtain ⟨N, hN⟩ : ∃ N, N = L.length := ⟨_, rfl⟩
      rw [← hN] at hal ⊢
      clear hN
      go_wp2_with fail
      go_ret
      exact ⟨A', N, c', rfl, hal.out, hb.out⟩
end
end Go.Proofs.YtkghfeodmbffaaaGreat
/- survival's Lost, Survives: the rest. -/
namespace Go.Proofs.YtkghfeodmbffaaaGreat
open Go Go.RowKit Go.Shelf Gf Sha

section
set_option maxRecDepth 100000
set_option maxHeartbeats 4000000
theorem lost_any (A : Option Addr) (n c : Nat) (l : List Ho) (B : Option Addr) (m d : Nat) (S : List Int) (w : World) (h : LS rHo 2 32 w A n c l) (hok : ∀ x ∈ l, HoOk x) (hn : n ≤ 1024) (hS : LS rInt 1 8 w B m d S) (hr : ∀ d ∈ S, 0 ≤ d ∧ d < 12) :
    Calls Tryz.prog 29 #[.slice A n c, .slice B m d] w fun e w' => ∃ A' n' c', e = .returned (.tuple #[.slice A' n' c', .int .i64 0]) ∧ (l.all (survB S) = decide (n' = 0)) ∧ Below w.heap.size w w' := by
  have hmf : ∀ (fn : Fn) (first cap : Array Value) (w : World), (Instr.makeFunc fn first cap).run Tryz.prog w = .ok (.func fn first cap) w := fun _ _ _ _ => rfl
  have hm := hS.len_le
  have H := Lib.hid h
  have HOK := Lib.hid hok
  have HN := Lib.hid hn
  have HS := Lib.hid hS
  have HSL := Lib.hid hS.1
  have HR := Lib.hid hr
  clear h hok hn hS hr
  go_enter Tryz.func29, Tryz.ntmps29
  go_wp2_with (first
    | (go_at_call 9; refine (scheck_any A n c l w H.out HOK.out HN.out).mono ?_; rintro e9 w1 ⟨rfl, r2⟩; have HB1 := Lib.hid r2; clear r2)
    | ((with_reducible show wpList _ _ _ (⟨some 7, _, _, _, _, _⟩ :: _) _ _); refine wpList_alloc _ rfl 100 rfl (gonL []) setZero ?_; intro w2 a1 a2 a3; have HG2 : Hid (BL w2 w1.heap.size 100 (gonL [])) := Lib.hid a1; have HB2 := Lib.hid (below_then HB1.out a2); clear a1 a2 a3))
  obtain ⟨gs, hgs⟩ : ∃ g, g = w1.heap.size := ⟨_, rfl⟩
  have HGS : Hid (w.heap.size ≤ gs) := Lib.hid (by rw [hgs]; exact HB1.out.size)
  rw [← hgs] at HG2 ⊢
  clear hgs
  go_loopw [18] (fun iv wr => ∃ k : Nat, k ≤ m ∧ iv = .int .i64 (k : Int) ∧ Hid (BL wr gs 100 (gonL (S.take k))) ∧ Hid (Below w.heap.size w wr)) (fun iv _ => m - (intOf iv).toNat)
  case atStart => exact ⟨0, by omega, rfl, HG2, HB2⟩
  case round =>
    obtain ⟨k, hk, rfl, hg, hb⟩ := hrel
    obtain ⟨wx, hwx⟩ : ∃ x, x = wr := ⟨_, rfl⟩
    rw [← hwx] at hg hb ⊢
    clear hwx
    by_cases hlt : k < m
    · obtain ⟨d9, gd, od, hdk, eD, hc⟩ := HS.out.int_at hb.out hlt
      have hdr := HR.out d9 (List.mem_of_getElem? hdk)
      obtain ⟨q, rfl⟩ : ∃ q : Nat, d9 = (q : Int) := ⟨d9.toNat, by omega⟩
      have hq : q < 12 := by omega
      have hqI : (q : Int) < 12 := hdr.2
      have HQ := Lib.hid hdr
      have HN9 : Hid ((gonL (S.take k)).set q (.bool true) = gonL (S.take (k + 1))) := Lib.hid (by rw [gonL_set, take_next hdk])
      subst eD
      clear hdk hdr
      go_wp2_with (first
        | (go_at_call 25; refine (vdev_any HQ.out _).mono ?_; rintro e9 w9 ⟨rfl, rfl⟩)
        | ((with_reducible show wpList _ _ _ (⟨none, _, _, _, _, _⟩ :: _) _ _); refine wpList_store1 _ rfl 4 (.tmp 26) (.const (.bool true)) rfl (sz1 _ szBool17 _) gs q _ _ (.bool true) rfl rfl hg.out rfl rfl (by rw [gonL_len]; exact hq) ?_; intro w5 a1 a2 a3; rw [HN9.out] at a1; have HG5 := Lib.hid a1; have HB5 : Hid (Below w.heap.size w w5) := Lib.hid (low_kp hb.out a2 (fun i hi e => by have := HGS.out; omega)); clear a1 a2 a3))
      go_roundw
      case rel => exact ⟨k + 1, by omega, by go_num, HG5, HB5⟩
      case measure => simp [intOf]; omega
    · obtain rfl : k = m := by omega
      rw [take_end HSL.out] at hg
      go_wp2_with (first
        | ((with_reducible show wpList _ _ _ (⟨some 10, _, _, _, _, _⟩ :: _) _ _); refine wpList_alloc1 _ rfl 51 rfl .nilFunc nilFn rfl ?_; intro w3 a1 a2 a3; have HV3 := Lib.hid a1; have HG3 := Lib.hid (hg.out.kept a2); have HB3 := Lib.hid (below_thenB hb.out hb.out.size a2); clear a1 a2 a3)
        | ((with_reducible show wpList _ _ _ (⟨none, _, _, _, _, _⟩ :: _) _ _); refine wpList_store1 _ rfl 51 (.tmp 10) (.tmp 28) rfl (sz1 _ szFnB _) wx.heap.size 0 _ _ (gonF gs) rfl rfl HV3.out rfl rfl (by simp) ?_; intro w4 a1 a2 a3; have HV4 : Hid (BL w4 wx.heap.size 51 [gonF gs]) := Lib.hid a1; have HG4 := Lib.hid (a2.bl HG3.out (fun e => by have := hg.out.lt; omega)); have HB4 : Hid (Below w.heap.size w w4) := Lib.hid (low_kp HB3.out a2 (fun i hi e => by have := hb.out.size; omega)); clear a1 a2 a3)
        | (go_at_call 48; refine (indices_any wx.heap.size gs S A n c l w4 HV4.out HG4.out (H.out.kept stay_ho HB4.out) HOK.out HN.out).mono ?_; rintro e9 w5 ⟨A', n', c', rfl, r1, r2⟩; have HR5 := Lib.hid r1; have HB5 := Lib.hid (below_then HB4.out r2); clear r1 r2))
      go_ret2
      exact ⟨A', n', c', rfl, HR5.out, HB5.out⟩
theorem survs_any (A : Option Addr) (n c : Nat) (l : List Ho) (B : Option Addr) (m d : Nat) (S : List Int) (w : World) (h : LS rHo 2 32 w A n c l) (hok : ∀ x ∈ l, HoOk x) (hn : n ≤ 1024) (hS : LS rInt 1 8 w B m d S) (hr : ∀ d ∈ S, 0 ≤ d ∧ d < 12) :
    Calls Tryz.prog 11 #[.slice A n c, .slice B m d] w fun e w' => e = .returned (.tuple #[.bool (l.all (survB S)), .int .i64 0]) ∧ Below w.heap.size w w' := by
  have HC := Lib.hid (lost_any A n c l B m d S w h hok hn hS hr)
  clear h hok hn hS hr
  go_enter Tryz.func11, Tryz.ntmps11
  go_wp2_with (first
    | (go_at_call 29; refine HC.out.mono ?_; rintro e9 w1 ⟨A', n', c', rfl, r1, r2⟩; have HR1 := Lib.hid r1; have HB1 := Lib.hid r2; clear r1 r2; obtain ⟨b, hb⟩ : ∃ b, b = decide (n' = 0) := ⟨_, rfl⟩; have hbi : ((n' : Int) == 0) = b := (by rw [hb, Bool.eq_iff_iff, beq_iff_eq, decide_eq_true_eq]; omega); rw [← hb] at HR1; clear hb))
  go_ret2
  exact ⟨by rw [HR1.out]; rfl, HB1.out⟩
end
end Go.Proofs.YtkghfeodmbffaaaGreat
/- The devices that hold pieces of each stripe, as the law of TopSurvives gathers them. -/
namespace Go.Proofs.YtkghfeodmbffaaaGreat
open Go Go.RowKit Go.Shelf Gf Sha

def devN (st : List UInt8) (ps : List Pl) (k : Nat) : List Int := ((List.range k).map (fun k : Nat => (k : Int))).flatMap (grpL st ps)
theorem devN_all (st : List UInt8) (ps : List Pl) : devN st ps 12 = devsL st ps := rfl
theorem devN_succ (st : List UInt8) (ps : List Pl) (k : Nat) : devN st ps (k + 1) = devN st ps k ++ grpL st ps (k : Int) := by
  unfold devN
  rw [List.range_succ, List.map_append, List.flatMap_append]
  simp
theorem devN_le (st : List UInt8) (ps : List Pl) (k : Nat) : ∀ e, (devN st ps k).length ≤ (devN st ps (k + e)).length
  | 0 => Nat.le_refl _
  | e + 1 => by
    have := devN_le st ps k e
    rw [← Nat.add_assoc, devN_succ, List.length_append]
    omega
theorem grp_next {st : List UInt8} {ps : List Pl} {j : Nat} {p : Pl} (h : ps[j]? = some p) (d : Int) : grpL st (ps.take (j + 1)) d = grpL st (ps.take j) d ++ (if p.st = st ∧ p.dv = d then [d] else []) := by
  unfold grpL
  rw [take_next h, List.filter_append, List.map_append]
  congr 1
  by_cases hc : p.st = st ∧ p.dv = d
  · rw [if_pos hc, List.filter_cons, if_pos (decide_eq_true hc)]; rfl
  · rw [if_neg hc, List.filter_cons, if_neg (by rw [decide_eq_false hc]; decide)]; rfl
theorem grp_le (st : List UInt8) (ps : List Pl) (j : Nat) {k : Nat} (hk : k < 12) : (devN st ps k ++ grpL st (ps.take j) (k : Int)).length ≤ (devsL st ps).length := by
  have h1 : (grpL st (ps.take j) (k : Int)).length ≤ (grpL st ps (k : Int)).length := by
    unfold grpL
    rw [List.length_map, List.length_map]
    exact ((List.take_sublist j ps).filter _).length_le
  have h2 := devN_le st ps (k + 1) (12 - (k + 1))
  rw [show k + 1 + (12 - (k + 1)) = 12 by omega, devN_all, devN_succ, List.length_append] at h2
  rw [List.length_append]
  omega
theorem hoL_next {ws : List Wt} {ps : List Pl} {k : Nat} {w : Wt} (h : ws[k]? = some w) : hoL (ws.take (k + 1)) ps = hoL (ws.take k) ps ++ [⟨w.da, devsL w.st ps⟩] := by
  unfold hoL
  rw [take_next h, List.map_append]; rfl
theorem bldHo (z : Int) (w : World) : (Instr.build 49 #[(0, .int .i64 z)]).run Tryz.prog w = .ok (.agg (hoC ⟨z, []⟩ none 0 0).toArray) w := by kernel_rfl
theorem bslHo0 (w : World) : (Instr.buildSlice 40 0 #[]).run Tryz.prog w = .ok (.slice (some ⟨w.heap.size, 0, none⟩) 0 0) (w.alloc (.cells ([] : List Value).toArray 49)) := by kernel_rfl
theorem bslHo1 (x : Ho) (A : Option Addr) (n c : Nat) (w : World) : (Instr.buildSlice 40 1 #[(0, .agg (hoC x A n c).toArray)]).run Tryz.prog w = .ok (.slice (some ⟨w.heap.size, 0, none⟩) 1 1) (w.alloc (.cells (hoC x A n c).toArray 49)) := by kernel_rfl
theorem szInts : (Tryz.prog.info? 24).map (·.size) = some 1 := by kernel_rfl
/-- A holding is appended to a list of the call's own. -/
theorem wpList_pushHo {w : World} {ops : Array Oper} {rest : List Oper} {o : Oper} {a : Act} {Q : Exit → Act → World → Prop} (hg : o.guard = none) (sl x : Operand)
    (hop : o.op = .call { callee := .builtin .append, args := #[sl, x], argTypes := #[40, 40] }) (base b2 : Nat) (v : Value) (L : List Ho) (hv : a.eval sl = v) (h : OLn rHo 2 49 base w v L) (hb : base ≤ w.heap.size)
    (g : Nat) (y : Ho) (A : Option Addr) (n c : Nat) (hx : a.eval x = .slice (some ⟨g, 0, none⟩) 1 1) (hbl : BL w g 49 (hoC y A n c)) (ho : OwnI w b2 (.slice A n c) y.dv) (hr : ∀ d ∈ y.dv, wfI d) (hda : wfI y.da) (hl : L.length ≤ 10000) (hyl : y.dv.length ≤ 10000)
    (hK : ∀ v' w', OLn rHo 2 49 base w' v' (L ++ [y]) → Kp (fun b => v.ownBlock = some b) w w' → wpList Tryz.prog ops Q rest (a.put o.dst v') w') : wpList Tryz.prog ops Q (o :: rest) a w := by
  obtain ⟨css, h1, h2, h3, h4, h5⟩ := h
  obtain ⟨iS, i1, i2, i3, i4⟩ := info_some infoHo
  refine wpList_appRW _ hg sl x 40 49 2 iS _ hop Tryz.underlying40 i1 i2 i3 rfl v _ _ hv h4 g _ hx hbl rfl (one_ho y A n c) (by rw [i4]; omega) (by omega) ?_
  intro v' w' ap
  refine hK v' w' (OLn.push h1 h2 h3 h5 rfl rfl (fun w'' hk => ?_) hb ap) ap.kp
  obtain ⟨A', c', e, _⟩ := ho.1.form
  cases e
  refine ⟨A, _, c, rfl, ints_ls (ho.1.kp hk (fun b hb' e => ?_)) rfl hr (by unfold lim; omega), hda⟩
  obtain ⟨cs, hb2⟩ := h4.ty e
  exact ho.1.ne_bl hb2 (by decide) b hb' rfl
set_option maxRecDepth 100000 in
set_option maxHeartbeats 8000000 in
theorem holdings_any (A : Option Addr) (n c : Nat) (ws : List Wt) (B : Option Addr) (m d : Nat) (ps : List Pl) (w : World) (h : LS rWt 4 40 w A n c ws) (hp : LS rPl 3 32 w B m d ps) (hn : n ≤ 1000) (hd : ∀ st, (devsL st ps).length ≤ 12) :
    Calls Tryz.prog 7 #[.slice A n c, .slice B m d] w fun e w' => ∃ A' c', e = .returned (.slice A' n c') ∧ LS rHo 2 32 w' A' n c' (hoL ws ps) ∧ Below w.heap.size w w' := by
  have hm := hp.len_le
  have H := Lib.hid h
  have HL := Lib.hid h.1
  have HP := Lib.hid hp
  have HPL := Lib.hid hp.1
  have HD := Lib.hid hd
  clear h hp hd
  go_enter Tryz.func7, Tryz.ntmps7
  go_wp2_with (first
    | ((with_reducible show wpList _ _ _ (⟨some 10, _, _, _, _, _⟩ :: _) _ _); refine wpList_bslice _ rfl 40 49 0 _ rfl #[] (by rw [List.map_toArray]; rfl) [] (bslHo0 _) ?_; intro w1 a1 a2 a3; have HO1 : Hid (OLn rHo 2 49 w.heap.size w1 (.slice (some ⟨w.heap.size, 0, none⟩) 0 0) []) := Lib.hid (OLn.nil' rHo 2 a1 (Nat.le_refl _)); have HB1 := Lib.hid a2; clear a1 a2 a3))
  go_loopw [5, 6] (fun v iv wr => ∃ k : Nat, k ≤ n ∧ iv = .int .i64 (k : Int) ∧ Hid (OLn rHo 2 49 w.heap.size wr v (hoL (ws.take k) ps)) ∧ Hid (Below w.heap.size w wr)) (fun _ iv _ => n - (intOf iv).toNat)
  case atStart => exact ⟨0, by omega, rfl, HO1, HB1⟩
  case round =>
    obtain ⟨k, hk, rfl, ho, hb⟩ := hrel
    obtain ⟨wx, hwx⟩ : ∃ x, x = wr := ⟨_, rfl⟩
    rw [← hwx] at ho hb ⊢
    clear hwx
    by_cases hlt : k < n
    · obtain ⟨x, g, o, cs, hs, ea, hat, hr⟩ := H.out.at_ stay_wt hb.out hlt
      obtain ⟨rfl, hok⟩ := hr
      have HOK := Lib.hid hok
      have HA := Lib.hid hat
      have HNX := Lib.hid (hoL_next (ps := ps) hs)
      have HTL : Hid ((hoL (ws.take k) ps).length ≤ 10000) := Lib.hid (by unfold hoL; rw [List.length_map, List.length_take]; omega)
      have p2 : wx.cell? ⟨g, o + k * 4 + 2, none⟩ = some (.int .i64 x.da) := hat 2 _ rfl
      subst ea
      obtain ⟨OL9, hOL9⟩ : ∃ z, z = hoL (ws.take k) ps := ⟨_, rfl⟩
      rw [← hOL9] at HNX HTL ho
      clear hs hat hok hOL9
      go_wp2_with (first
        | ((with_reducible show wpList _ _ _ (⟨some 22, _, _, _, _, _⟩ :: _) _ _); refine wpList_build _ rfl 49 _ rfl #[(0, .int .i64 x.da)] (by rw [List.map_toArray]; rfl) (.agg (hoC ⟨x.da, []⟩ none 0 0).toArray) (bldHo _ _) ?_)
        | ((with_reducible show wpList _ _ _ (⟨some 7, _, _, _, _, _⟩ :: _) _ _); refine wpList_alloc _ rfl 49 rfl hoZ hoZero ?_; intro w3 a1 a2 a3; have HV3 := Lib.hid a1; have HX3 := Lib.hid a2; clear a1 a2 a3)
        | ((with_reducible show wpList _ _ _ (⟨none, _, _, _, _, _⟩ :: _) _ _); refine wpList_storev _ rfl 49 (.tmp 7) (.tmp 22) rfl 2 (by kernel_rfl) wx.heap.size 0 _ hoZ (hoC ⟨x.da, []⟩ none 0 0) rfl rfl HV3.out rfl (one_ho _ _ _ _) (by decide) ?_; intro w4 a1 a2 a3; have HV4 : Hid (BL w4 wx.heap.size 49 [.int .i64 x.da, .slice none 0 0]) := Lib.hid a1; have HX4 : Hid (Below wx.heap.size wx w4) := Lib.hid (low_kp HX3.out a2 (fun i hi e => by omega)); clear a1 a2 a3))
      obtain ⟨gh, hgh⟩ : ∃ z, z = wx.heap.size := ⟨_, rfl⟩
      have HGH : Hid (wx.heap.size ≤ gh) := Lib.hid (by omega)
      rw [← hgh] at HV4 ⊢
      clear hgh p2
      go_loopw [8] (fun dv wr => ∃ (dd : Nat) (VA : Option Addr) (vn vc : Nat), dd ≤ 12 ∧ dv = .int .i64 (dd : Int) ∧ Hid (BL wr gh 49 [.int .i64 x.da, .slice VA vn vc]) ∧ Hid (OwnI wr wx.heap.size (.slice VA vn vc) (devN x.st ps dd)) ∧ Hid (Below wx.heap.size wx wr)) (fun dv _ => 12 - (intOf dv).toNat)
      case atStart => exact ⟨0, none, 0, 0, by omega, rfl, HV4, Lib.hid (OwnI.nil _ _), HX4⟩
      case round =>
        obtain ⟨dd, VA, vn, vc, hdd, rfl, hv, hoi, hbx⟩ := hrel
        obtain ⟨wy, hwy⟩ : ∃ x, x = wr := ⟨_, rfl⟩
        rw [← hwy] at hv hoi hbx ⊢
        clear hwy
        by_cases hl2 : dd < 12
        · have t1 : decide ((dd : Int) < 12) = true := decide_eq_true (by omega)
          go_wp2_with fail
          go_loopw [9] (fun jv wr => ∃ (j : Nat) (VA : Option Addr) (vn vc : Nat), j ≤ m ∧ jv = .int .i64 (j : Int) ∧ Hid (BL wr gh 49 [.int .i64 x.da, .slice VA vn vc]) ∧ Hid (OwnI wr wx.heap.size (.slice VA vn vc) (devN x.st ps dd ++ grpL x.st (ps.take j) (dd : Int))) ∧ Hid (Below wx.heap.size wx wr)) (fun jv _ => m - (intOf jv).toNat)
          case atStart => exact ⟨0, VA, vn, vc, by omega, rfl, hv, by rw [show grpL x.st (ps.take 0) (dd : Int) = [] from rfl, List.append_nil]; exact hoi, hbx⟩
          case round =>
            obtain ⟨j, VA, vn, vc, hj, rfl, hv, hoi, hbx⟩ := hrel
            obtain ⟨wz, hwz⟩ : ∃ x, x = wr := ⟨_, rfl⟩
            rw [← hwz] at hv hoi hbx ⊢
            clear hwz
            by_cases hl3 : j < m
            · have HB := Lib.hid (below_thenB hb.out hb.out.size hbx.out)
              obtain ⟨y, g', o', cs', hs', ea', hat', hr'⟩ := HP.out.at_ stay_pl HB.out hl3
              obtain ⟨rfl, _⟩ := hr'
              have HGN := Lib.hid (grp_next (st := x.st) hs' (dd : Int))
              have HGL : Hid ((devN x.st ps dd ++ grpL x.st (ps.take j) (dd : Int)).length ≤ 10000) := Lib.hid (Nat.le_trans (grp_le x.st ps j hl2) (Nat.le_trans (HD.out x.st) (by decide)))
              have q0 : wz.cell? ⟨g', o' + j * 3, none⟩ = some (.string (strB y.st)) := hat' 0 _ rfl
              have q2 : wz.cell? ⟨g', o' + j * 3 + 2, none⟩ = some (.int .i64 y.dv) := hat' 2 _ rfl
              have p0 : wz.cell? ⟨g, o + k * 4, none⟩ = some (.string (strB x.st)) := (At.kept HA.out hbx.out) 0 _ rfl
              have v1 := hv.out.get (j := 1) rfl
              subst ea'
              clear hs' hat'
              by_cases h1 : y.st = x.st
              · have e1 : ((strB y.st).toList == (strB x.st).toList) = true := by rw [strB_eq, decide_eq_true h1]
                by_cases h2 : y.dv = (dd : Int)
                · have e2 : (y.dv == (dd : Int)) = true := by rw [beq_iff_eq]; exact h2
                  rw [if_pos ⟨h1, h2⟩] at HGN
                  clear h1 h2
                  go_wp2_with fail
                  refine Text.wp_region_text (fun _ => True) [(0, 4), (1, 4), (2, 4), (3, 4), (4, 4), (6, 4), (7, 4), (8, 4), (9, 4), (5, 1), (10, 1), (11, 4), (12, 4), (13, 4), (14, 4), (15, 4), (16, 4), (18, 4), (17, 1), (19, 4), (20, 4)] (by kernel_rfl) (by kernel_rfl) (fun _ _ _ _ _ h => h) (trivial) ?_
                  iterate 9 (refine Text.purek rfl rfl (fun K hK => ⟨_, fun w' => by go_simp <;> rfl, ?_⟩); go_simp; refine hK _ ?_; clear hK K)
                  iterate 2 (refine Text.readk rfl rfl (fun K hK => ⟨_, by go_simp <;> rfl, ?_⟩); go_simp; refine hK _ ?_; clear hK K)
                  iterate 7 (refine Text.purek rfl rfl (fun K hK => ⟨_, fun w' => by go_simp <;> rfl, ?_⟩); go_simp; refine hK _ ?_; clear hK K)
                  (refine Text.readk rfl rfl (fun K hK => ⟨_, by go_simp <;> rfl, ?_⟩); go_simp; refine hK _ ?_; clear hK K)
                  iterate 2 (refine Text.purek rfl rfl (fun K hK => ⟨_, fun w' => by go_simp <;> rfl, ?_⟩); go_simp; refine hK _ ?_; clear hK K)
                  refine Text.done ?_
                  obtain ⟨wd, hwd⟩ : ∃ z, z = wz.drew := ⟨_, rfl⟩
                  have HVd : Hid (BL wd gh 49 [.int .i64 x.da, .slice VA vn vc]) := Lib.hid (by rw [hwd]; exact hv.out.kept (Below.refl _ _).drew)
                  have HOd : Hid (OwnI wd wx.heap.size (.slice VA vn vc) (devN x.st ps dd ++ grpL x.st (ps.take j) (dd : Int))) := Lib.hid (by rw [hwd]; exact hoi.out.kept (Below.refl _ _).drew)
                  have HXd : Hid (Below wx.heap.size wx wd) := Lib.hid (by rw [hwd]; exact hbx.out.drew)
                  rw [← hwd]
                  clear hwd q0 q2 p0 v1
                  have v1 := HVd.out.get (j := 1) rfl
                  go_wp2_with (first
                    | ((with_reducible show wpList _ _ _ (⟨some 57, _, _, _, _, _⟩ :: _) _ _); refine wpList_bslice _ rfl 24 3 1 _ rfl #[(0, .int .i64 (dd : Int))] (by rw [List.map_toArray]; rfl) [.int .i64 (dd : Int)] (bslI _ _) ?_; intro w6 a1 a2 a3; have HG6 := Lib.hid a1; have HX6 : Hid (Below wd.heap.size wd w6) := Lib.hid a2; clear a1 a2 a3)
                    | ((with_reducible show wpList _ _ _ (⟨some 58, _, _, _, _, _⟩ :: _) _ _); refine wpList_pushI rfl (.tmp 55) (.tmp 57) rfl wx.heap.size _ _ rfl (HOd.out.kept HX6.out) (by have := HXd.out.size; have := HX6.out.size; omega) wd.heap.size (dd : Int) rfl HG6.out HGL.out ?_; intro v' w7 a1 a2; rw [List.append_assoc, ← HGN.out] at a1; have HO7 := Lib.hid a1; have HX7 : Hid (Below wx.heap.size wx w7) := Lib.hid (low_kp (below_thenB HXd.out HXd.out.size HX6.out) a2.kp (fun i hi e => by have := HOd.out.2 i e; omega)); have HV7 : Hid (BL w7 gh 49 [.int .i64 x.da, .slice VA vn vc]) := Lib.hid (a2.kp.bl (HVd.out.kept HX6.out) (fun e => HOd.out.1.ne_bl HVd.out (by decide) gh e rfl)); obtain ⟨VA', vc', ev, _⟩ := a1.1.form; obtain ⟨vN, hvN⟩ : ∃ z, z = (devN x.st ps dd ++ grpL x.st (ps.take (j + 1)) (dd : Int)).length := ⟨_, rfl⟩; rw [← hvN] at ev; subst ev; clear a1 a2 hvN)
                    | ((with_reducible show wpList _ _ _ (⟨none, _, _, _, _, _⟩ :: _) _ _); refine wpList_store1 _ rfl 24 (.tmp 59) (.tmp 58) rfl (sz1 _ szInts _) gh 1 _ _ (.slice VA' vN vc') rfl rfl HV7.out rfl rfl (by show 1 < 2; decide) ?_; intro w8 a1 a2 a3; have HV8 : Hid (BL w8 gh 49 [.int .i64 x.da, .slice VA' vN vc']) := Lib.hid a1; have HO8 : Hid (OwnI w8 wx.heap.size (.slice VA' vN vc') (devN x.st ps dd ++ grpL x.st (ps.take (j + 1)) (dd : Int))) := Lib.hid ⟨HO7.out.1.kp a2 (fun b hb e => HO7.out.1.ne_bl HV7.out (by decide) b hb e), HO7.out.2⟩; have HX8 : Hid (Below wx.heap.size wx w8) := Lib.hid (low_kp HX7.out a2 (fun i hi e => by have := HGH.out; omega)); clear a1 a2 a3))
                  go_roundw
                  case rel => exact ⟨j + 1, VA', vN, vc', by omega, by go_num, HV8, HO8, HX8⟩
                  case measure => simp [intOf]; omega
                · have e2 : (y.dv == (dd : Int)) = false := by rw [beq_eq_false_iff_ne]; exact h2
                  rw [if_neg (fun h9 => h2 h9.2), List.append_nil] at HGN
                  clear h1 h2
                  go_wp2_with fail
                  refine Text.wp_region_text (fun _ => True) [(0, 4), (1, 4), (2, 4), (3, 4), (4, 4), (6, 4), (7, 4), (8, 4), (9, 4), (5, 1), (10, 1), (11, 4), (12, 4), (13, 4), (14, 4), (15, 4), (16, 4), (18, 4), (17, 1), (19, 4), (20, 4)] (by kernel_rfl) (by kernel_rfl) (fun _ _ _ _ _ h => h) (trivial) ?_
                  iterate 9 (refine Text.purek rfl rfl (fun K hK => ⟨_, fun w' => by go_simp <;> rfl, ?_⟩); go_simp; refine hK _ ?_; clear hK K)
                  iterate 2 (refine Text.readk rfl rfl (fun K hK => ⟨_, by go_simp <;> rfl, ?_⟩); go_simp; refine hK _ ?_; clear hK K)
                  iterate 7 (refine Text.purek rfl rfl (fun K hK => ⟨_, fun w' => by go_simp <;> rfl, ?_⟩); go_simp; refine hK _ ?_; clear hK K)
                  (refine Text.readk rfl rfl (fun K hK => ⟨_, by go_simp <;> rfl, ?_⟩); go_simp; refine hK _ ?_; clear hK K)
                  iterate 2 (refine Text.purek rfl rfl (fun K hK => ⟨_, fun w' => by go_simp <;> rfl, ?_⟩); go_simp; refine hK _ ?_; clear hK K)
                  refine Text.done ?_
                  go_wp2_with fail
                  go_roundw
                  case rel => exact ⟨j + 1, VA, vn, vc, by omega, by go_num, Lib.hid (hv.out.kept (Below.refl _ _).drew), by rw [HGN.out]; exact Lib.hid (hoi.out.kept (Below.refl _ _).drew), Lib.hid hbx.out.drew⟩
                  case measure => simp [intOf]; omega
              · have e1 : ((strB y.st).toList == (strB x.st).toList) = false := by rw [strB_eq, decide_eq_false h1]
                rw [if_neg (fun h9 => h1 h9.1), List.append_nil] at HGN
                clear h1
                go_wp2_with fail
                refine Text.wp_region_text (fun _ => True) [(0, 4), (1, 4), (2, 4), (3, 4), (4, 4), (6, 4), (7, 4), (8, 4), (9, 4), (5, 1), (10, 1), (11, 4), (12, 4), (13, 4), (14, 4), (15, 4), (16, 4), (17, 4), (18, 4), (19, 4), (20, 4)] (by kernel_rfl) (by kernel_rfl) (fun _ _ _ _ _ h => h) (trivial) ?_
                iterate 9 (refine Text.purek rfl rfl (fun K hK => ⟨_, fun w' => by go_simp <;> rfl, ?_⟩); go_simp; refine hK _ ?_; clear hK K)
                iterate 2 (refine Text.readk rfl rfl (fun K hK => ⟨_, by go_simp <;> rfl, ?_⟩); go_simp; refine hK _ ?_; clear hK K)
                iterate 2 (refine Text.purek rfl rfl (fun K hK => ⟨_, fun w' => by go_simp <;> rfl, ?_⟩); go_simp; refine hK _ ?_; clear hK K)
                iterate 7 (refine Text.skipk (.inr (.inr rfl)) rfl rfl (fun K hK => ?_); go_simp; refine hK _ ?_; clear hK K)
                (refine Text.purek rfl rfl (fun K hK => ⟨_, fun w' => by go_simp <;> rfl, ?_⟩); go_simp; refine hK _ ?_; clear hK K)
                refine Text.done ?_
                go_wp2_with fail
                go_roundw
                case rel => exact ⟨j + 1, VA, vn, vc, by omega, by go_num, Lib.hid (hv.out.kept (Below.refl _ _).drew), by rw [HGN.out]; exact Lib.hid (hoi.out.kept (Below.refl _ _).drew), Lib.hid hbx.out.drew⟩
                case measure => simp [intOf]; omega
            · obtain rfl : j = m := by omega
              rw [take_end HPL.out, ← devN_succ] at hoi
              go_wp2_with fail
              go_roundw
              case rel => exact ⟨dd + 1, VA, vn, vc, by omega, by go_num, hv, hoi, hbx⟩
              case measure => simp [intOf]; omega
        · obtain rfl : dd = 12 := by omega
          have t1 : decide (((12 : Nat) : Int) < 12) = false := by decide
          rw [devN_all] at hoi
          have HOy := Lib.hid (ho.out.kept hbx.out)
          have HY9 : Hid ((devsL x.st ps).length ≤ 10000) := Lib.hid (Nat.le_trans (HD.out x.st) (by decide))
          go_wp2_with (first
            | ((with_reducible show wpList _ _ _ (⟨some 61, _, _, _, _, _⟩ :: _) _ _); refine wpList_loadv _ rfl 49 (.tmp 7) rfl 2 (by kernel_rfl) gh 0 (hoC ⟨x.da, devsL x.st ps⟩ VA vn vc) rfl (BL.all hv.out) rfl ?_)
            | ((with_reducible show wpList _ _ _ (⟨some 62, _, _, _, _, _⟩ :: _) _ _); refine wpList_bslice _ rfl 40 49 1 _ rfl #[(0, .agg (hoC ⟨x.da, devsL x.st ps⟩ VA vn vc).toArray)] (by rw [List.map_toArray]; rfl) (hoC ⟨x.da, devsL x.st ps⟩ VA vn vc) (bslHo1 _ _ _ _ _) ?_; intro w6 a1 a2 a3; have HG6 := Lib.hid a1; have HX6 : Hid (Below wy.heap.size wy w6) := Lib.hid a2; clear a1 a2 a3)
            | ((with_reducible show wpList _ _ _ (⟨some 63, _, _, _, _, _⟩ :: _) _ _); refine wpList_pushHo rfl (.tmp 60) (.tmp 62) rfl w.heap.size wx.heap.size _ _ rfl (HOy.out.kept HX6.out) (by have := hb.out.size; have := hbx.out.size; have := HX6.out.size; omega) wy.heap.size ⟨x.da, devsL x.st ps⟩ VA vn vc rfl HG6.out (hoi.out.kept HX6.out) (fun d hd9 => by have h9 := devs_mem x.st d hd9; exact wfI_of (by omega) (by omega)) HOK.out.2.2.1 HTL.out HY9.out ?_; intro v' w7 a1 a2; rw [← HNX.out] at a1; have HO7 := Lib.hid a1; have HB7 : Hid (Below w.heap.size w w7) := Lib.hid (low_kp (below_thenB (below_thenB hb.out hb.out.size hbx.out) (Nat.le_trans hb.out.size hbx.out.size) HX6.out) a2 (fun i hi e => by obtain ⟨_, _, _, _, _, h5⟩ := ho.out; have := h5 i e; omega)); clear a1 a2))
          go_roundw
          case rel => exact ⟨k + 1, by omega, by go_num, HO7, HB7⟩
          case measure => simp [intOf]; omega
    · obtain rfl : k = n := by omega
      rw [take_end HL.out] at ho
      have hll : (hoL ws ps).length = k := by unfold hoL; rw [List.length_map]; exact HL.out
      obtain ⟨A', c', ev, hls⟩ := ho.out.ls (b := 32) (by rw [hll]; unfold lim; omega)
      subst ev
      rw [hll] at hls ⊢
      have HLS := Lib.hid hls
      clear hls hll
      go_wp2_with fail
      go_ret
      exact ⟨A', c', rfl, HLS.out, hb.out⟩
end Go.Proofs.YtkghfeodmbffaaaGreat
