/- The law ChallengeProven: its argument opened, its walk. -/
import Derived.Test.YtgjgofjabdjclaaDoorA25
import Derived.Test.YtgjgofjabdjclaaDoorA18
import Derived.Test.YtgjgofjabdjclaaDoorA22
namespace Go.Proofs.YtgjgofjabdjclaaDoor
open Go Go.ChangeShapes Go.WideShapes Go.ChangeAt Go.RowKit Gf Sha

theorem TS.of_ls {w : World} {A : Option Addr} {n c : Nat} {m : List (List UInt8)} (h : LS rStr 1 16 w A n c m) : TS w A n c m :=
  ⟨h.1, h.2.1, h.2.2.1, fun k hk => by
    have hk' : k < m.length := by rw [h.1]; exact hk
    obtain ⟨g, o, cs, e, h1, h2, _⟩ := h.2.2.2 k hk'
    refine ⟨g, o, e, ?_⟩
    rw [h2, Nat.mul_one] at h1
    show w.cell? ⟨g, o + k, none⟩ = some (.string (strB (gR m k)))
    rw [gR_eq hk']
    exact h1 0 _ rfl⟩
theorem pfFields : ∃ f0 f1 f2 : Field, Tryd.prog.underlying 63 = some (.struct #[f0, f1, f2]) ∧ (f0.type = 3 ∧ f0.offset = 0) ∧ (f1.type = 22 ∧ f1.offset = 1) ∧ (f2.type = 61 ∧ f2.offset = 2) := ⟨_, _, _, Tryd.underlying63, ⟨rfl, rfl⟩, ⟨rfl, rfl⟩, ⟨rfl, rfl⟩⟩
theorem c_pf : Tryd.prog.cellsOf 63 = 3 := by kernel_rfl
theorem c_sl1 : Tryd.prog.cellsOf 22 = 1 := by kernel_rfl
theorem c_sl2 : Tryd.prog.cellsOf 61 = 1 := by kernel_rfl
theorem c_i : Tryd.prog.cellsOf 3 = 1 := by kernel_rfl
set_option maxRecDepth 100000 in
theorem opens_pf {H : Type} {enc : TypeId × Value → H} {W : World} : Opens enc Tryd.prog W 63 rPf := fun cs d ps n h hw hl => by
  obtain ⟨f0, f1, f2, hu, ⟨t0, o0⟩, ⟨t1, o1⟩, ⟨t2, o2⟩⟩ := pfFields
  rw [c_pf] at hl
  match cs, hl with
  | [u0, u1, u2], _ =>
    have h0 := struct_each hu h hw 0 f0 rfl (R := rInt) (by rw [t0]; exact opens_int Tryd.underlying3) (by rw [o0, t0, c_i]; simp)
    have h1 := struct_each hu h hw 1 f1 rfl (R := rBytes) (by rw [t1]; exact opens_bytes Tryd.underlying22 Tryd.underlying5 (by kernel_rfl) (by kernel_rfl)) (by rw [o1, t1, c_sl1]; simp)
    have h2 := struct_each hu h hw 2 f2 rfl (R := rList rStr 1 16) (by rw [t2]; exact opens_list Tryd.underlying61 (by decide) (by kernel_rfl) (by kernel_rfl) (opens_str Tryd.underlying9)) (by rw [o2, t2, c_sl2]; simp)
    rw [t0, o0, c_i] at h0
    rw [t1, o1, c_sl1] at h1
    rw [t2, o2, c_sl2] at h2
    obtain ⟨z, e0, _⟩ := h0
    obtain ⟨x, A, n', c, e1, hb⟩ := h1
    obtain ⟨m, A', n'', c', e2, hm⟩ := h2
    simp only [List.drop_zero, List.take_succ_cons, List.take_zero, List.cons.injEq, and_true, List.drop_succ_cons] at e0 e1 e2
    exact ⟨⟨z, x, m⟩, A, n', c, A', n'', c', by rw [e0, e1, e2], hb, TS.of_ls hm⟩
theorem open_pfs {H : Type} {enc : TypeId × Value → H} {W : World} {fuel len cap : Nat} {A : Option Addr} {d : DataW H} {ps : List MemPlace} (h : DataW.trod enc Tryd.prog W 0 (fun _ => true) true fuel 60 [.slice A len cap] = some (d, ps))
    (hsz : ∀ n ∈ d.weights Tryd.prog 60, n ≤ reachBytes) : ∃ L : List Pf, LS rPf 3 56 W A len cap L := by
  obtain ⟨L, A', n', c', e, hL⟩ := opens_list (s := 3) (b := 56) Tryd.underlying60 (by decide) (by kernel_rfl) (by kernel_rfl) opens_pf _ d ps _ h hsz (by kernel_rfl)
  cases e
  exact ⟨L, hL⟩

theorem wf_range {n : Int} (h : (Lit.int .i64 n).wf = true) : -9223372036854775808 ≤ n ∧ n ≤ 9223372036854775807 := by
  simp only [Lit.wf, Bool.and_eq_true, decide_eq_true_eq] at h
  exact ⟨by simpa [IntKind.min, IntKind.signed, IntKind.bits] using h.1, by simpa [IntKind.max, IntKind.signed, IntKind.bits] using h.2⟩
theorem tdiv20 {n : Int} (h : (Lit.int .i64 n).wf = true) : IntKind.i64.wrap (n.tdiv 20) = n.tdiv 20 := by
  obtain ⟨h1, h2⟩ := wf_range h
  have h3 : -9223372036854775808 ≤ n.tdiv 20 ∧ n.tdiv 20 ≤ 9223372036854775807 := by
    by_cases h0 : 0 ≤ n
    · rw [Int.tdiv_eq_ediv_of_nonneg h0]; omega
    · obtain ⟨m, rfl⟩ : ∃ m, n = -m := ⟨-n, by omega⟩
      rw [Int.neg_tdiv, Int.tdiv_eq_ediv_of_nonneg (by omega)]; omega
  rw [IntKind.wrap_i64]; omega

set_option maxRecDepth 100000 in
set_option maxHeartbeats 4000000 in
theorem proven_not (root nl : List UInt8) (n size c : Int) (N cp : Nat) (A : Option Addr) (w : World) (hn : n < 1 ∨ size < 1) :
    Calls Tryd.prog 34 #[.string (strB root), .int .i64 n, .int .i64 size, .string (strB nl), .int .i64 c, .slice A N cp] w fun e w' => e = .returned (.bool false) ∧ Below w.heap.size w w' := by
  by_cases h1 : n < 1
  · have d1 : decide (n < 1) = true := decide_eq_true h1
    clear h1 hn
    go_enter Tryd.func34, Tryd.ntmps34
    go_wp2_with fail
    go_ret
    exact ⟨rfl, Below.refl _ _⟩
  · have h2 : size < 1 := by omega
    have d1 : decide (n < 1) = false := decide_eq_false h1
    have d2 : decide (size < 1) = true := decide_eq_true h2
    clear h1 h2 hn
    go_enter Tryd.func34, Tryd.ntmps34
    go_wp2_with fail
    go_ret
    exact ⟨rfl, Below.refl _ _⟩
set_option maxRecDepth 100000 in
set_option maxHeartbeats 4000000 in
theorem rproven_not (root nl : List UInt8) (n size c : Int) (N cp : Nat) (A : Option Addr) (w : World) (hn : n < 1 ∨ size < 1) :
    Calls Tryd.prog 35 #[.string (strB root), .int .i64 n, .int .i64 size, .string (strB nl), .int .i64 c, .slice A N cp] w fun e w' => e = .returned (.bool false) ∧ Below w.heap.size w w' := by
  by_cases h1 : n < 1
  · have d1 : decide (n < 1) = true := decide_eq_true h1
    clear h1 hn
    go_enter Tryd.func35, Tryd.ntmps35
    go_wp2_with fail
    go_ret
    exact ⟨rfl, Below.refl _ _⟩
  · have h2 : size < 1 := by omega
    have d1 : decide (n < 1) = false := decide_eq_false h1
    have d2 : decide (size < 1) = true := decide_eq_true h2
    clear h1 h2 hn
    go_enter Tryd.func35, Tryd.ntmps35
    go_wp2_with fail
    go_ret
    exact ⟨rfl, Below.refl _ _⟩
set_option maxRecDepth 100000 in
set_option maxHeartbeats 4000000 in
theorem proven_nos (root nl : List UInt8) (n size : Nat) (c : Int) (N cp : Nat) (A : Option Addr) (w : World) (h1 : 1 ≤ n) (hn : n < 9223372036854775808) (hs : 1 ≤ size) (hs2 : size < 9223372036854775808)
    (hv : spotB nl.length (((n - 1) / size + 1 : Nat) : Int) c = false) (hq : (n - 1) / size + 1 ≤ 256) :
    Calls Tryd.prog 34 #[.string (strB root), .int .i64 (n : Int), .int .i64 (size : Int), .string (strB nl), .int .i64 c, .slice A N cp] w fun e w' => e = .returned (.bool false) ∧ Below w.heap.size w w' := by
  have HR : Hid ((n : Int) - 1 = ((n - 1 : Nat) : Int)) := Lib.hid (by omega)
  have _ := hq
  obtain ⟨q0, hqd0⟩ : ∃ q, q = (n - 1) / size := ⟨_, rfl⟩
  rw [← hqd0] at hv hq
  have HQ0 := Lib.hid hqd0.symm
  obtain ⟨q, hqd⟩ : ∃ q, q = q0 + 1 := ⟨_, rfl⟩
  rw [← hqd] at hv hq
  have HQ : Hid ((n - 1) / size + 1 = q) := Lib.hid (by rw [hqd, hqd0])
  have eq1 : (q0 : Int) + 1 = (q : Int) := by omega
  have HV := Lib.hid hv
  clear hqd0 hqd hv
  go_enter Tryd.func34, Tryd.ntmps34
  go_wp2_with (first
    | (go_at_call 61; refine (blocksOf_any n size _ h1 hn hs hs2).mono ?_; rintro e w1 ⟨rfl, hw⟩; rw [hw]; clear hw w1; rw [HQ.out])
    | (go_at_call 21; refine (spots_no nl q c _ HV.out).mono ?_; rintro e w2 ⟨rfl, rfl⟩))
  go_ret
  exact ⟨rfl, Below.refl _ _⟩
set_option maxRecDepth 100000 in
set_option maxHeartbeats 4000000 in
theorem rproven_nos (root nl : List UInt8) (n size : Nat) (c : Int) (N cp : Nat) (A : Option Addr) (w : World) (h1 : 1 ≤ n) (hn : n < 9223372036854775808) (hs : 1 ≤ size) (hs2 : size < 9223372036854775808)
    (hv : spotB nl.length (((n - 1) / size + 1 : Nat) : Int) c = false) (hq : (n - 1) / size + 1 ≤ 256) :
    Calls Tryd.prog 35 #[.string (strB root), .int .i64 (n : Int), .int .i64 (size : Int), .string (strB nl), .int .i64 c, .slice A N cp] w fun e w' => e = .returned (.bool false) ∧ Below w.heap.size w w' := by
  have HR : Hid ((n : Int) - 1 = ((n - 1 : Nat) : Int)) := Lib.hid (by omega)
  have _ := hq
  obtain ⟨q0, hqd0⟩ : ∃ q, q = (n - 1) / size := ⟨_, rfl⟩
  rw [← hqd0] at hv hq
  have HQ0 := Lib.hid hqd0.symm
  obtain ⟨q, hqd⟩ : ∃ q, q = q0 + 1 := ⟨_, rfl⟩
  rw [← hqd] at hv hq
  have HQ : Hid ((n - 1) / size + 1 = q) := Lib.hid (by rw [hqd, hqd0])
  have eq1 : (q0 : Int) + 1 = (q : Int) := by omega
  have HV := Lib.hid hv
  clear hqd0 hqd hv
  go_enter Tryd.func35, Tryd.ntmps35
  go_wp2_with (first
    | ((with_reducible show wpList _ _ _ (⟨some 28, _, _, _, _, _⟩ :: _) _ _); refine wpList_quoN _ rfl (.tmp 26) (.tmp 27) _ _ rfl (n - 1) size _ _ rfl rfl HR.out rfl (by omega) (by omega) ?_; rw [HQ0.out])
    | (go_at_call 22; refine (rspots_no nl q c _ HV.out).mono ?_; rintro e w2 ⟨rfl, rfl⟩))
  go_ret
  exact ⟨rfl, Below.refl _ _⟩

/-- Both say the same. -/
def Both (root nl : List UInt8) (n size c : Int) (N : Nat) (L : List Pf) : Prop :=
  ∃ b, (∀ w' A' cp', LS rPf 3 56 w' A' N cp' L → Tabs w' → Calls Tryd.prog 34 #[.string (strB root), .int .i64 n, .int .i64 size, .string (strB nl), .int .i64 c, .slice A' N cp'] w' fun e w'' => e = .returned (.bool b) ∧ Below w'.heap.size w' w'') ∧
    (∀ w' A' cp', LS rPf 3 56 w' A' N cp' L → Tabs w' → Calls Tryd.prog 35 #[.string (strB root), .int .i64 n, .int .i64 size, .string (strB nl), .int .i64 c, .slice A' N cp'] w' fun e w'' => e = .returned (.bool b) ∧ Below w'.heap.size w' w'')
theorem both (root nl : List UInt8) (n size c : Int) (N : Nat) (L : List Pf) (wn : (Lit.int .i64 n).wf = true) (ws : (Lit.int .i64 size).wf = true) (hd : ¬ (0 < size ∧ size ≤ n.tdiv 20)) (hX : ∀ k, k < N → (gP L k).x.length ≤ 1000000) :
    Both root nl n size c N L := by
  by_cases h0 : n < 1 ∨ size < 1
  · exact ⟨false, fun w' A' cp' _ _ => proven_not root nl n size c N cp' A' w' h0, fun w' A' cp' _ _ => rproven_not root nl n size c N cp' A' w' h0⟩
  · obtain ⟨n, rfl⟩ := Int.eq_ofNat_of_zero_le (show 0 ≤ n by omega)
    obtain ⟨size, rfl⟩ := Int.eq_ofNat_of_zero_le (show 0 ≤ size by omega)
    have r1 := (wf_range wn).2
    have r2 := (wf_range ws).2
    have h1 : 1 ≤ n := by omega
    have h2 : 1 ≤ size := by omega
    have hd2 : n / 20 < size := by
      rw [Int.tdiv_eq_ediv_of_nonneg (by omega)] at hd
      omega
    have hq : (n - 1) / size + 1 ≤ 256 := by
      have : (n - 1) / size < 20 := (Nat.div_lt_iff_lt_mul (by omega)).2 (by omega)
      omega
    by_cases hv : spotB nl.length (((n - 1) / size + 1 : Nat) : Int) c = true
    · obtain ⟨_, _, _, v4, _, _⟩ := spotB_parts hv
      obtain ⟨c, rfl⟩ := Int.eq_ofNat_of_zero_le v4
      exact ⟨_, fun w' A' cp' h hT => proven_any root nl L n size c N cp' A' w' h hT h1 (by omega) h2 (by omega) hq hv hX, fun w' A' cp' h hT => rproven_any root nl L n size c N cp' A' w' h hT h1 (by omega) h2 (by omega) hq hv hX⟩
    · simp only [Bool.not_eq_true] at hv
      exact ⟨false, fun w' A' cp' _ _ => proven_nos root nl n size c N cp' A' w' h1 (by omega) h2 (by omega) hv hq, fun w' A' cp' _ _ => rproven_nos root nl n size c N cp' A' w' h1 (by omega) h2 (by omega) hv hq⟩

set_option maxRecDepth 100000 in
set_option maxHeartbeats 8000000 in
theorem proven_walk (root : List UInt8) (n size : Int) (nl : List UInt8) (c : Int) (A : Option Addr) (N cp : Nat) (L : List Pf) (w : World) (hT : Tabs w) (wn : (Lit.int .i64 n).wf = true) (ws : (Lit.int .i64 size).wf = true) (h : LS rPf 3 56 w A N cp L) :
    Calls Tryd.prog 9 #[.string (strB root), .int .i64 n, .int .i64 size, .string (strB nl), .int .i64 c, .slice A N cp] w fun e w' => e = .returned (.bool true) ∧ Below w.heap.size w w' := by
  have HT := Lib.hid hT
  have H := Lib.hid h
  have HLN := Lib.hid h.1
  have HBO : Hid (¬ (0 < size ∧ size ≤ n.tdiv 20) → (∀ k, k < N → (gP L k).x.length ≤ 1000000) → Both root nl n size c N L) := Lib.hid (both root nl n size c N L wn ws)
  have wD := tdiv20 wn
  obtain ⟨D, hD⟩ : ∃ D, n.tdiv 20 = D := ⟨_, rfl⟩
  rw [hD] at wD HBO
  clear hT wn ws h
  by_cases g1 : (64 : Int) < ((strB root).size : Int)
  · have d1 : decide ((64 : Int) < ((strB root).size : Int)) = true := decide_eq_true g1
    clear g1
    go_enter Tryd.func9, Tryd.ntmps9
    go_wp2_with (first
      | (go_at_call 12; (with_reducible show Calls _ _ _ w _); refine (awake_any w HT.out).mono ?_; rintro e w1 ⟨rfl, b1⟩; have HB1 := Lib.hid b1; clear b1)
      | (go_at_call 12; refine (awake_any w1 (HT.out.kept HB1.out)).mono ?_; rintro e w2 ⟨rfl, b1⟩; have HB2 := Lib.hid (below_then HB1.out b1); clear b1))
    go_ret
    exact ⟨rfl, HB2.out⟩
  have d1 : decide ((64 : Int) < ((strB root).size : Int)) = false := decide_eq_false g1
  clear g1
  by_cases g2 : (64 : Int) < ((strB nl).size : Int)
  · have d2 : decide ((64 : Int) < ((strB nl).size : Int)) = true := decide_eq_true g2
    clear g2
    go_enter Tryd.func9, Tryd.ntmps9
    go_wp2_with (first
      | (go_at_call 12; (with_reducible show Calls _ _ _ w _); refine (awake_any w HT.out).mono ?_; rintro e w1 ⟨rfl, b1⟩; have HB1 := Lib.hid b1; clear b1)
      | (go_at_call 12; refine (awake_any w1 (HT.out.kept HB1.out)).mono ?_; rintro e w2 ⟨rfl, b1⟩; have HB2 := Lib.hid (below_then HB1.out b1); clear b1))
    go_ret
    exact ⟨rfl, HB2.out⟩
  have d2 : decide ((64 : Int) < ((strB nl).size : Int)) = false := decide_eq_false g2
  clear g2
  by_cases g3 : 10 < N
  · have d3 : decide ((10 : Int) < (N : Int)) = true := decide_eq_true (by omega)
    clear g3
    go_enter Tryd.func9, Tryd.ntmps9
    go_wp2_with (first
      | (go_at_call 12; (with_reducible show Calls _ _ _ w _); refine (awake_any w HT.out).mono ?_; rintro e w1 ⟨rfl, b1⟩; have HB1 := Lib.hid b1; clear b1)
      | (go_at_call 12; refine (awake_any w1 (HT.out.kept HB1.out)).mono ?_; rintro e w2 ⟨rfl, b1⟩; have HB2 := Lib.hid (below_then HB1.out b1); clear b1))
    go_ret
    exact ⟨rfl, HB2.out⟩
  have d3 : decide ((10 : Int) < (N : Int)) = false := decide_eq_false (by omega)
  have hN10 : N ≤ 10 := by omega
  clear g3
  by_cases g4 : 0 < size
  · have dz : decide ((0 : Int) < size) = true := decide_eq_true g4
    by_cases g5 : size ≤ D
    · have d5 : decide (size ≤ D) = true := decide_eq_true g5
      clear g4 g5
      go_enter Tryd.func9, Tryd.ntmps9
      go_wp2_with (first
        | (go_at_call 12; (with_reducible show Calls _ _ _ w _); refine (awake_any w HT.out).mono ?_; rintro e w1 ⟨rfl, b1⟩; have HB1 := Lib.hid b1; clear b1)
        | (go_at_call 12; refine (awake_any w1 (HT.out.kept HB1.out)).mono ?_; rintro e w2 ⟨rfl, b1⟩; have HB2 := Lib.hid (below_then HB1.out b1); clear b1))
      go_ret
      exact ⟨rfl, HB2.out⟩
    · have d5 : decide (size ≤ D) = false := decide_eq_false g5
      have HBO' : Hid ((∀ k, k < N → (gP L k).x.length ≤ 1000000) → Both root nl n size c N L) := Lib.hid (HBO.out (fun h => g5 h.2))
      clear g4 g5
      go_enter Tryd.func9, Tryd.ntmps9
      go_wp2_with (go_at_call 12; (with_reducible show Calls _ _ _ w _); refine (awake_any w HT.out).mono ?_; rintro e w1 ⟨rfl, b1⟩; have HB1 := Lib.hid b1; clear b1)
      clear hD d1 d2 d3 dz
      go_loopw [47] (fun iv wr => ∃ k : Nat, k ≤ N ∧ iv = .int .i64 (k : Int) ∧ Hid (∀ j, j < k → (gP L j).x.length ≤ 1000000) ∧ Hid (Below w.heap.size w wr)) (fun iv _ => N - (intOf iv).toNat)
      case atStart => exact ⟨0, by omega, rfl, Lib.hid (fun j hj => absurd hj (by omega)), HB1⟩
      case round =>
        obtain ⟨k, hk, rfl, hall, hb⟩ := hrel
        obtain ⟨wx, hwx⟩ : ∃ x, x = wr := ⟨_, rfl⟩
        rw [← hwx] at hb ⊢
        clear hwx
        by_cases hlt : k < N
        · obtain ⟨p, g, o, cs, hp, rfl, hat, A1, n1, c1, A2, n2, c2, rfl, hb1, hb2⟩ := H.out.at_ stay_pf (Below.refl _ _) hlt
          have HP : Hid (gP L k = p) := Lib.hid (gP_eq hp)
          have HA := Lib.hid (hat.kept hb.out)
          have HN1 : Hid (p.x.length = n1) := Lib.hid hb1.1
          have HM1 := Lib.hid hb2
          have hn2 : n2 * 16 ≤ 140737488355328 := by have := hb2.2.2.1; unfold lim at this; omega
          clear hat hp hb1 hb2
          by_cases g6 : 100 < n1
          · have d6 : decide ((100 : Int) < (n1 : Int)) = true := decide_eq_true (by omega)
            clear g6
            go_wp2_with (first
              | ((with_reducible show wpList _ _ _ (⟨some 50, _, _, _, _, _⟩ :: _) _ _); refine wpList_loadv _ rfl 63 (.tmp 49) rfl 3 (by kernel_rfl) g (o + k * 3) [.int .i64 p.b, .slice A1 n1 c1, .slice A2 n2 c2] (by go_simp) HA.out rfl ?_)
              | ((with_reducible show wpList _ _ _ (⟨some 14, _, _, _, _, _⟩ :: _) _ _); refine wpList_alloc _ rfl 63 rfl pfZ pfZero ?_; intro w3 a1 a2 a3; have HV3 := Lib.hid a1; have HX3 := Lib.hid a2; clear a1 a2 a3)
              | ((with_reducible show wpList _ _ _ (⟨none, _, _, _, _, _⟩ :: _) _ _); refine wpList_storev _ rfl 63 (.tmp 14) (.tmp 50) rfl 3 (by kernel_rfl) wx.heap.size 0 _ pfZ [.int .i64 p.b, .slice A1 n1 c1, .slice A2 n2 c2] rfl rfl HV3.out rfl (pf_one _ _ _ _ _ _ _) (by decide) ?_; intro w4 a1 a2 a3; have HV4 : Hid (BL w4 wx.heap.size 63 [.int .i64 p.b, .slice A1 n1 c1, .slice A2 n2 c2]) := Lib.hid a1; have q1 := HV4.out.get (j := 1) rfl; have q2 := HV4.out.get (j := 2) rfl; have HX4 : Hid (Below wx.heap.size wx w4) := Lib.hid (((Kp.of_below (S := fun _ => False) HX3.out).after a2 (fun i hi e => by omega)).below (Nat.le_refl _) (fun _ h => h.elim)); clear a1 a2 a3))
            go_ret
            exact ⟨rfl, below_thenB hb.out hb.out.size HX4.out⟩
          · have d6 : decide ((100 : Int) < (n1 : Int)) = false := decide_eq_false (by omega)
            have HXK : Hid ((gP L k).x.length ≤ 1000000) := Lib.hid (by rw [HP.out, HN1.out]; omega)
            clear g6
            by_cases g7 : 10 < n2
            · have d7 : decide ((10 : Int) < (n2 : Int)) = true := decide_eq_true (by omega)
              clear g7
              go_wp2_with (first
                | ((with_reducible show wpList _ _ _ (⟨some 50, _, _, _, _, _⟩ :: _) _ _); refine wpList_loadv _ rfl 63 (.tmp 49) rfl 3 (by kernel_rfl) g (o + k * 3) [.int .i64 p.b, .slice A1 n1 c1, .slice A2 n2 c2] (by go_simp) HA.out rfl ?_)
                | ((with_reducible show wpList _ _ _ (⟨some 14, _, _, _, _, _⟩ :: _) _ _); refine wpList_alloc _ rfl 63 rfl pfZ pfZero ?_; intro w3 a1 a2 a3; have HV3 := Lib.hid a1; have HX3 := Lib.hid a2; clear a1 a2 a3)
                | ((with_reducible show wpList _ _ _ (⟨none, _, _, _, _, _⟩ :: _) _ _); refine wpList_storev _ rfl 63 (.tmp 14) (.tmp 50) rfl 3 (by kernel_rfl) wx.heap.size 0 _ pfZ [.int .i64 p.b, .slice A1 n1 c1, .slice A2 n2 c2] rfl rfl HV3.out rfl (pf_one _ _ _ _ _ _ _) (by decide) ?_; intro w4 a1 a2 a3; have HV4 : Hid (BL w4 wx.heap.size 63 [.int .i64 p.b, .slice A1 n1 c1, .slice A2 n2 c2]) := Lib.hid a1; have q1 := HV4.out.get (j := 1) rfl; have q2 := HV4.out.get (j := 2) rfl; have HX4 : Hid (Below wx.heap.size wx w4) := Lib.hid (((Kp.of_below (S := fun _ => False) HX3.out).after a2 (fun i hi e => by omega)).below (Nat.le_refl _) (fun _ h => h.elim)); clear a1 a2 a3))
              go_ret
              exact ⟨rfl, below_thenB hb.out hb.out.size HX4.out⟩
            · have d7 : decide ((10 : Int) < (n2 : Int)) = false := decide_eq_false (by omega)
              clear g7
              go_wp2_with (first
                | ((with_reducible show wpList _ _ _ (⟨some 50, _, _, _, _, _⟩ :: _) _ _); refine wpList_loadv _ rfl 63 (.tmp 49) rfl 3 (by kernel_rfl) g (o + k * 3) [.int .i64 p.b, .slice A1 n1 c1, .slice A2 n2 c2] (by go_simp) HA.out rfl ?_)
                | ((with_reducible show wpList _ _ _ (⟨some 14, _, _, _, _, _⟩ :: _) _ _); refine wpList_alloc _ rfl 63 rfl pfZ pfZero ?_; intro w3 a1 a2 a3; have HV3 := Lib.hid a1; have HX3 := Lib.hid a2; clear a1 a2 a3)
                | ((with_reducible show wpList _ _ _ (⟨none, _, _, _, _, _⟩ :: _) _ _); refine wpList_storev _ rfl 63 (.tmp 14) (.tmp 50) rfl 3 (by kernel_rfl) wx.heap.size 0 _ pfZ [.int .i64 p.b, .slice A1 n1 c1, .slice A2 n2 c2] rfl rfl HV3.out rfl (pf_one _ _ _ _ _ _ _) (by decide) ?_; intro w4 a1 a2 a3; have HV4 : Hid (BL w4 wx.heap.size 63 [.int .i64 p.b, .slice A1 n1 c1, .slice A2 n2 c2]) := Lib.hid a1; have q1 := HV4.out.get (j := 1) rfl; have q2 := HV4.out.get (j := 2) rfl; have HX4 : Hid (Below wx.heap.size wx w4) := Lib.hid (((Kp.of_below (S := fun _ => False) HX3.out).after a2 (fun i hi e => by omega)).below (Nat.le_refl _) (fun _ h => h.elim)); clear a1 a2 a3))
              have HB4 := Lib.hid (below_thenB hb.out hb.out.size HX4.out)
              clear q1 q2 d6 d7
              go_loopw [64] (fun iv wr => wr = w4 ∧ ∃ j : Nat, j ≤ n2 ∧ iv = .int .i64 (j : Int)) (fun iv _ => n2 - (intOf iv).toNat)
              case atStart => exact ⟨rfl, 0, by omega, rfl⟩
              case round =>
                obtain ⟨rfl, j, hj, rfl⟩ := hrel
                by_cases hjl : j < n2
                · obtain ⟨g2, o2, rfl, q1⟩ := HM1.out.at_ HB4.out hjl
                  by_cases g8 : (64 : Int) < ((strB (gR p.m j)).size : Int)
                  · have d8 : decide ((64 : Int) < ((strB (gR p.m j)).size : Int)) = true := decide_eq_true g8
                    clear g8
                    go_wp2_with fail
                    go_ret
                    exact ⟨rfl, HB4.out⟩
                  · have d8 : decide ((64 : Int) < ((strB (gR p.m j)).size : Int)) = false := decide_eq_false g8
                    clear g8
                    go_wp2_with fail
                    go_roundw
                    case rel => exact ⟨trivial, j + 1, by omega, by go_num⟩
                    case measure => simp [intOf]; omega
                · obtain rfl : j = n2 := by omega
                  go_wp2_with fail
                  go_roundw
                  case rel => exact ⟨k + 1, by omega, by go_num, Lib.hid (fun j hj => by
                    rcases Nat.lt_succ_iff_lt_or_eq.1 hj with h | rfl
                    · exact hall.out j h
                    · exact HXK.out), HB4⟩
                  case measure => simp [intOf]; omega
        · obtain rfl : k = N := by omega
          obtain ⟨bb, hc1, hc2⟩ := HBO'.out hall.out
          have HC1 := Lib.hid hc1
          have HC2 := Lib.hid hc2
          clear hc1 hc2
          go_wp2_with (first
            | (go_at_call 34; refine (HC1.out _ _ _ (H.out.kept stay_pf hb.out) (HT.out.kept hb.out)).mono ?_; rintro e w5 ⟨rfl, b1⟩; have HB5 := Lib.hid (below_thenB hb.out hb.out.size b1); clear b1)
            | (go_at_call 36; refine (plain_any L _ cp A w5 (H.out.kept stay_pf HB5.out) (by omega)).mono ?_; rintro e w6 ⟨A6, c6, rfl, h6, b1⟩; have HB6 := Lib.hid (below_thenB HB5.out HB5.out.size b1); have H6 := Lib.hid h6; clear b1 h6)
            | (go_at_call 35; refine (HC2.out _ _ _ H6.out (HT.out.kept HB6.out)).mono ?_; rintro e w7 ⟨rfl, b1⟩; have HB7 := Lib.hid (below_thenB HB6.out HB6.out.size b1); clear b1))
          go_ret
          exact ⟨rfl, HB7.out⟩
  · have dz : decide ((0 : Int) < size) = false := decide_eq_false g4
    have HBO' : Hid ((∀ k, k < N → (gP L k).x.length ≤ 1000000) → Both root nl n size c N L) := Lib.hid (HBO.out (fun h => g4 h.1))
    clear g4
    go_enter Tryd.func9, Tryd.ntmps9
    go_wp2_with (go_at_call 12; (with_reducible show Calls _ _ _ w _); refine (awake_any w HT.out).mono ?_; rintro e w1 ⟨rfl, b1⟩; have HB1 := Lib.hid b1; clear b1)
    clear hD d1 d2 d3 dz
    go_loopw [47] (fun iv wr => ∃ k : Nat, k ≤ N ∧ iv = .int .i64 (k : Int) ∧ Hid (∀ j, j < k → (gP L j).x.length ≤ 1000000) ∧ Hid (Below w.heap.size w wr)) (fun iv _ => N - (intOf iv).toNat)
    case atStart => exact ⟨0, by omega, rfl, Lib.hid (fun j hj => absurd hj (by omega)), HB1⟩
    case round =>
      obtain ⟨k, hk, rfl, hall, hb⟩ := hrel
      obtain ⟨wx, hwx⟩ : ∃ x, x = wr := ⟨_, rfl⟩
      rw [← hwx] at hb ⊢
      clear hwx
      by_cases hlt : k < N
      · obtain ⟨p, g, o, cs, hp, rfl, hat, A1, n1, c1, A2, n2, c2, rfl, hb1, hb2⟩ := H.out.at_ stay_pf (Below.refl _ _) hlt
        have HP : Hid (gP L k = p) := Lib.hid (gP_eq hp)
        have HA := Lib.hid (hat.kept hb.out)
        have HN1 : Hid (p.x.length = n1) := Lib.hid hb1.1
        have HM1 := Lib.hid hb2
        have hn2 : n2 * 16 ≤ 140737488355328 := by have := hb2.2.2.1; unfold lim at this; omega
        clear hat hp hb1 hb2
        by_cases g6 : 100 < n1
        · have d6 : decide ((100 : Int) < (n1 : Int)) = true := decide_eq_true (by omega)
          clear g6
          go_wp2_with (first
            | ((with_reducible show wpList _ _ _ (⟨some 50, _, _, _, _, _⟩ :: _) _ _); refine wpList_loadv _ rfl 63 (.tmp 49) rfl 3 (by kernel_rfl) g (o + k * 3) [.int .i64 p.b, .slice A1 n1 c1, .slice A2 n2 c2] (by go_simp) HA.out rfl ?_)
            | ((with_reducible show wpList _ _ _ (⟨some 14, _, _, _, _, _⟩ :: _) _ _); refine wpList_alloc _ rfl 63 rfl pfZ pfZero ?_; intro w3 a1 a2 a3; have HV3 := Lib.hid a1; have HX3 := Lib.hid a2; clear a1 a2 a3)
            | ((with_reducible show wpList _ _ _ (⟨none, _, _, _, _, _⟩ :: _) _ _); refine wpList_storev _ rfl 63 (.tmp 14) (.tmp 50) rfl 3 (by kernel_rfl) wx.heap.size 0 _ pfZ [.int .i64 p.b, .slice A1 n1 c1, .slice A2 n2 c2] rfl rfl HV3.out rfl (pf_one _ _ _ _ _ _ _) (by decide) ?_; intro w4 a1 a2 a3; have HV4 : Hid (BL w4 wx.heap.size 63 [.int .i64 p.b, .slice A1 n1 c1, .slice A2 n2 c2]) := Lib.hid a1; have q1 := HV4.out.get (j := 1) rfl; have q2 := HV4.out.get (j := 2) rfl; have HX4 : Hid (Below wx.heap.size wx w4) := Lib.hid (((Kp.of_below (S := fun _ => False) HX3.out).after a2 (fun i hi e => by omega)).below (Nat.le_refl _) (fun _ h => h.elim)); clear a1 a2 a3))
          go_ret
          exact ⟨rfl, below_thenB hb.out hb.out.size HX4.out⟩
        · have d6 : decide ((100 : Int) < (n1 : Int)) = false := decide_eq_false (by omega)
          have HXK : Hid ((gP L k).x.length ≤ 1000000) := Lib.hid (by rw [HP.out, HN1.out]; omega)
          clear g6
          by_cases g7 : 10 < n2
          · have d7 : decide ((10 : Int) < (n2 : Int)) = true := decide_eq_true (by omega)
            clear g7
            go_wp2_with (first
              | ((with_reducible show wpList _ _ _ (⟨some 50, _, _, _, _, _⟩ :: _) _ _); refine wpList_loadv _ rfl 63 (.tmp 49) rfl 3 (by kernel_rfl) g (o + k * 3) [.int .i64 p.b, .slice A1 n1 c1, .slice A2 n2 c2] (by go_simp) HA.out rfl ?_)
              | ((with_reducible show wpList _ _ _ (⟨some 14, _, _, _, _, _⟩ :: _) _ _); refine wpList_alloc _ rfl 63 rfl pfZ pfZero ?_; intro w3 a1 a2 a3; have HV3 := Lib.hid a1; have HX3 := Lib.hid a2; clear a1 a2 a3)
              | ((with_reducible show wpList _ _ _ (⟨none, _, _, _, _, _⟩ :: _) _ _); refine wpList_storev _ rfl 63 (.tmp 14) (.tmp 50) rfl 3 (by kernel_rfl) wx.heap.size 0 _ pfZ [.int .i64 p.b, .slice A1 n1 c1, .slice A2 n2 c2] rfl rfl HV3.out rfl (pf_one _ _ _ _ _ _ _) (by decide) ?_; intro w4 a1 a2 a3; have HV4 : Hid (BL w4 wx.heap.size 63 [.int .i64 p.b, .slice A1 n1 c1, .slice A2 n2 c2]) := Lib.hid a1; have q1 := HV4.out.get (j := 1) rfl; have q2 := HV4.out.get (j := 2) rfl; have HX4 : Hid (Below wx.heap.size wx w4) := Lib.hid (((Kp.of_below (S := fun _ => False) HX3.out).after a2 (fun i hi e => by omega)).below (Nat.le_refl _) (fun _ h => h.elim)); clear a1 a2 a3))
            go_ret
            exact ⟨rfl, below_thenB hb.out hb.out.size HX4.out⟩
          · have d7 : decide ((10 : Int) < (n2 : Int)) = false := decide_eq_false (by omega)
            clear g7
            go_wp2_with (first
              | ((with_reducible show wpList _ _ _ (⟨some 50, _, _, _, _, _⟩ :: _) _ _); refine wpList_loadv _ rfl 63 (.tmp 49) rfl 3 (by kernel_rfl) g (o + k * 3) [.int .i64 p.b, .slice A1 n1 c1, .slice A2 n2 c2] (by go_simp) HA.out rfl ?_)
              | ((with_reducible show wpList _ _ _ (⟨some 14, _, _, _, _, _⟩ :: _) _ _); refine wpList_alloc _ rfl 63 rfl pfZ pfZero ?_; intro w3 a1 a2 a3; have HV3 := Lib.hid a1; have HX3 := Lib.hid a2; clear a1 a2 a3)
              | ((with_reducible show wpList _ _ _ (⟨none, _, _, _, _, _⟩ :: _) _ _); refine wpList_storev _ rfl 63 (.tmp 14) (.tmp 50) rfl 3 (by kernel_rfl) wx.heap.size 0 _ pfZ [.int .i64 p.b, .slice A1 n1 c1, .slice A2 n2 c2] rfl rfl HV3.out rfl (pf_one _ _ _ _ _ _ _) (by decide) ?_; intro w4 a1 a2 a3; have HV4 : Hid (BL w4 wx.heap.size 63 [.int .i64 p.b, .slice A1 n1 c1, .slice A2 n2 c2]) := Lib.hid a1; have q1 := HV4.out.get (j := 1) rfl; have q2 := HV4.out.get (j := 2) rfl; have HX4 : Hid (Below wx.heap.size wx w4) := Lib.hid (((Kp.of_below (S := fun _ => False) HX3.out).after a2 (fun i hi e => by omega)).below (Nat.le_refl _) (fun _ h => h.elim)); clear a1 a2 a3))
            have HB4 := Lib.hid (below_thenB hb.out hb.out.size HX4.out)
            clear q1 q2 d6 d7
            go_loopw [64] (fun iv wr => wr = w4 ∧ ∃ j : Nat, j ≤ n2 ∧ iv = .int .i64 (j : Int)) (fun iv _ => n2 - (intOf iv).toNat)
            case atStart => exact ⟨rfl, 0, by omega, rfl⟩
            case round =>
              obtain ⟨rfl, j, hj, rfl⟩ := hrel
              by_cases hjl : j < n2
              · obtain ⟨g2, o2, rfl, q1⟩ := HM1.out.at_ HB4.out hjl
                by_cases g8 : (64 : Int) < ((strB (gR p.m j)).size : Int)
                · have d8 : decide ((64 : Int) < ((strB (gR p.m j)).size : Int)) = true := decide_eq_true g8
                  clear g8
                  go_wp2_with fail
                  go_ret
                  exact ⟨rfl, HB4.out⟩
                · have d8 : decide ((64 : Int) < ((strB (gR p.m j)).size : Int)) = false := decide_eq_false g8
                  clear g8
                  go_wp2_with fail
                  go_roundw
                  case rel => exact ⟨trivial, j + 1, by omega, by go_num⟩
                  case measure => simp [intOf]; omega
              · obtain rfl : j = n2 := by omega
                go_wp2_with fail
                go_roundw
                case rel => exact ⟨k + 1, by omega, by go_num, Lib.hid (fun j hj => by
                  rcases Nat.lt_succ_iff_lt_or_eq.1 hj with h | rfl
                  · exact hall.out j h
                  · exact HXK.out), HB4⟩
                case measure => simp [intOf]; omega
      · obtain rfl : k = N := by omega
        obtain ⟨bb, hc1, hc2⟩ := HBO'.out hall.out
        have HC1 := Lib.hid hc1
        have HC2 := Lib.hid hc2
        clear hc1 hc2
        go_wp2_with (first
          | (go_at_call 34; refine (HC1.out _ _ _ (H.out.kept stay_pf hb.out) (HT.out.kept hb.out)).mono ?_; rintro e w5 ⟨rfl, b1⟩; have HB5 := Lib.hid (below_thenB hb.out hb.out.size b1); clear b1)
          | (go_at_call 36; refine (plain_any L _ cp A w5 (H.out.kept stay_pf HB5.out) (by omega)).mono ?_; rintro e w6 ⟨A6, c6, rfl, h6, b1⟩; have HB6 := Lib.hid (below_thenB HB5.out HB5.out.size b1); have H6 := Lib.hid h6; clear b1 h6)
          | (go_at_call 35; refine (HC2.out _ _ _ H6.out (HT.out.kept HB6.out)).mono ?_; rintro e w7 ⟨rfl, b1⟩; have HB7 := Lib.hid (below_thenB HB6.out HB6.out.size b1); clear b1))
        go_ret
        exact ⟨rfl, HB7.out⟩
end Go.Proofs.YtgjgofjabdjclaaDoor
