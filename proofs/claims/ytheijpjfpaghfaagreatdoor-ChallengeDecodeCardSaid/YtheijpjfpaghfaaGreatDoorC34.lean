/- Several texts in one: Hi. -/
import Derived.Test.YtheijpjfpaghfaaGreatDoorC33
import Derived.Test.YtheijpjfpaghfaaGreatDoorC29
/- ref01.read: sums, ints, counts. -/
namespace Go.Proofs.YtheijpjfpaghfaaGreatDoor
open Go Go.RowKit Gf Sha

/-- A value of the reference. -/
def vaC (k n : Int) (s : List UInt8) (m : Int) : List Value := [.int .i64 k, .int .u64 0, .int .i64 n, .bool false, .string (strB s), .int .i64 m]
theorem vaZero : (Tryz.prog.info? 100).map (·.zero) = some (some (.agg (vaC 0 0 [] 0).toArray)) := by kernel_rfl
theorem bldVa (k m : Int) (w : World) : (Instr.build 100 #[(0, .int .i64 k), (5, .int .i64 m)]).run Tryz.prog w = .ok (.agg (vaC k 0 [] m).toArray) w := by kernel_rfl
def nxO {α : Type} (a : Nat) : Except Int (α × Nat) → Nat
  | .ok x => a + x.2
  | .error _ => a
theorem results_at3 {P : Program} (w : World) {t : TypeId} {n : Nat} {fn : Func} {p q r : Tmp} (hf : fn.results = #[.cell p t, .tmp q, .tmp r]) (h : Agg P t n = true) {tmps : Array Value} {g o : Nat} {ms : List Value} (hp : tmps.getD p undef = .pointer (some ⟨g, o, none⟩)) (hm : At w g o ms) (hn : ms.length = n) :
    (results fn tmps).run P w = .ok (.tuple #[.agg ms.toArray, tmps.getD q undef, tmps.getD r undef]) w := by
  have hp' : tmps[p]?.getD undef = .pointer (some ⟨g, o, none⟩) := by simpa using hp
  simp [results, hf, hp', asAddr, run_loadVar_at w h hm hn]
set_option maxRecDepth 100000 in
set_option maxHeartbeats 2000000 in
theorem rread_sum (A : Option Addr) (n c : Nat) (b : List UInt8) (a : Nat) (w : World) (h : BS w A n c b) (ha : a ≤ n) :
    Calls Tryz.prog 75 #[.slice A n c, .int .i64 (a : Int), .int .i64 6, .int .i64 0] w fun e w' => e = .returned (.tuple #[.agg (vaC 6 0 (vO [] (sD (b.drop a))) 0).toArray, .int .i64 ((nxO a (sD (b.drop a)) : Nat) : Int), .int .i64 (eO (sD (b.drop a)))]) ∧ Below w.heap.size w w' := by
  have H := Lib.hid h
  have hn9 := h.len_le
  have hc9 : n ≤ c := h.2.1
  have hl : b.length = n := h.1
  clear h
  have f0 : IntKind.i64.wrap ((n : Int) - (a : Int)) = (n : Int) - (a : Int) := IntWalk.i64_in _ (by omega)
  by_cases h32 : a + 32 ≤ n
  · have HD : Hid (sD (b.drop a) = .ok ((b.drop a).take 32, 32)) := Lib.hid (sD_ok (by rw [List.length_drop]; omega))
    have f1 : decide ((n : Int) - (a : Int) < 32) = false := decide_eq_false (by omega)
    obtain ⟨gA, oA, rfl, _⟩ := H.out.at_ (Below.refl _ _) (show a < n by omega)
    have f5 : 0 ≤ (a : Int) + 32 ∧ (a : Int) + 32 ≤ (c : Int) := ⟨by omega, by omega⟩
    have f6 : a ≤ ((a : Int) + 32).toNat := by omega
    have f7 : ((a : Int) + 32).toNat - a = 32 := by omega
    have f4 : IntKind.i64.wrap ((a : Int) + 32) = (a : Int) + 32 := IntWalk.i64_in _ (by omega)
    have HX : Hid (BS w (some ⟨gA, oA + a, none⟩) 32 (c - a) ((b.drop a).take 32)) := Lib.hid (by
      have h9 := (H.out.cut (show a ≤ n by omega)).pre (show 32 ≤ n - a by omega)
      rw [cutA, if_neg (show ¬ c = a by omega), Option.map_some, addr_add] at h9
      exact h9)
    clear hl
    go_enter Tryz.func75, Tryz.ntmps75
    go_wp2_with (first
      | ((with_reducible show wpList _ _ _ (⟨some 8, _, _, _, _, _⟩ :: _) _ _); refine wpList_alloc _ rfl 100 rfl (vaC 0 0 [] 0) vaZero ?_; intro w1 a1 a2 a3; have HR1 := Lib.hid a1; have HB1 := Lib.hid a2; clear a1 a2 a3)
      | ((with_reducible show wpList _ _ _ (⟨some 17, _, _, _, _, _⟩ :: _) _ _); refine wpList_build _ rfl 100 _ rfl #[(0, .int .i64 6), (5, .int .i64 0)] (by rw [List.map_toArray]; rfl) (.agg (vaC 6 0 [] 0).toArray) (by exact bldVa _ _ _) ?_)
      | ((with_reducible show wpList _ _ _ (⟨some 11, _, _, _, _, _⟩ :: _) _ _); refine wpList_alloc _ rfl 100 rfl (vaC 0 0 [] 0) vaZero ?_; intro w2 a1 a2 a3; have HV2 := Lib.hid a1; have HR2 := Lib.hid (HR1.out.kept a2); have HB2 := Lib.hid (below_then HB1.out a2); clear a1 a2 a3)
      | ((with_reducible show wpList _ _ _ (⟨none, _, _, _, _, _⟩ :: _) _ _); refine wpList_storev _ rfl 100 (.tmp 11) (.tmp 17) rfl 6 (by kernel_rfl) w1.heap.size 0 _ (vaC 0 0 [] 0) (vaC 6 0 [] 0) rfl rfl HV2.out rfl (one_val _ rfl) (by decide) ?_; intro w3 a1 a2 a3; have HV3 : Hid (BL w3 w1.heap.size 100 (vaC 6 0 [] 0)) := Lib.hid a1; have HR3 := Lib.hid (a2.bl HR2.out (by have := HR1.out.lt; omega)); have HB3 : Hid (Below w.heap.size w w3) := Lib.hid (low_own HB2.out a2 (fun i hi e => by have := HB1.out.size; omega)); clear a1 a2 a3; have hcs := conv_str (HX.out.kept HB3.out))
      | ((with_reducible show wpList _ _ _ (⟨none, _, _, _, _, _⟩ :: _) _ _); refine wpList_store1 _ rfl 9 (.tmp 33) (.tmp 32) rfl (sz1 _ (by kernel_rfl) _) w1.heap.size 4 _ _ (.string (strB ((b.drop a).take 32))) rfl rfl HV3.out rfl rfl (by simp [vaC]) ?_; intro w4 a1 a2 a3; have HV4 : Hid (BL w4 w1.heap.size 100 (vaC 6 0 ((b.drop a).take 32) 0)) := Lib.hid a1; have HR4 := Lib.hid (a2.bl HR3.out (by have := HR1.out.lt; omega)); have HB4 : Hid (Below w.heap.size w w4) := Lib.hid (low_own HB3.out a2 (fun i hi e => by have := HB1.out.size; omega)); clear a1 a2 a3 hcs)
      | ((with_reducible show wpList _ _ _ (⟨some 34, _, _, _, _, _⟩ :: _) _ _); refine wpList_loadv _ rfl 100 (.tmp 11) rfl 6 (by kernel_rfl) w1.heap.size 0 (vaC 6 0 ((b.drop a).take 32) 0) rfl (BL.all HV4.out) rfl ?_)
      | ((with_reducible show wpList _ _ _ (⟨none, _, _, _, _, _⟩ :: _) _ _); refine wpList_storev _ rfl 100 (.tmp 8) (.tmp 34) rfl 6 (by kernel_rfl) w.heap.size 0 _ (vaC 0 0 [] 0) (vaC 6 0 ((b.drop a).take 32) 0) rfl rfl HR4.out rfl (one_val _ rfl) (by decide) ?_; intro w9 a1 a2 a3; have HR9 : Hid (BL w9 w.heap.size 100 (vaC 6 0 ((b.drop a).take 32) 0)) := Lib.hid a1; have HB9 : Hid (Below w.heap.size w w9) := Lib.hid (low_own HB4.out a2 (fun i hi e => by omega)); clear a1 a2 a3)
      | fail)
    refine bodyPost_ret (results_at3 w9 Tryz.results75 (n := 6) (by kernel_rfl) (g := w.heap.size) (o := 0) rfl (ms := (vaC 6 0 ((b.drop a).take 32) 0)) (BL.all HR9.out) rfl) rfl ?_
    rw [HD.out]
    exact ⟨by go_num, HB9.out⟩
  · have HD : Hid (sD (b.drop a) = .error 3) := Lib.hid (sD_bad (by rw [List.length_drop]; omega))
    have f1 : decide ((n : Int) - (a : Int) < 32) = true := decide_eq_true (by omega)
    clear hl
    go_enter Tryz.func75, Tryz.ntmps75
    go_wp2_with (first
      | ((with_reducible show wpList _ _ _ (⟨some 8, _, _, _, _, _⟩ :: _) _ _); refine wpList_alloc _ rfl 100 rfl (vaC 0 0 [] 0) vaZero ?_; intro w1 a1 a2 a3; have HR1 := Lib.hid a1; have HB1 := Lib.hid a2; clear a1 a2 a3)
      | ((with_reducible show wpList _ _ _ (⟨some 17, _, _, _, _, _⟩ :: _) _ _); refine wpList_build _ rfl 100 _ rfl #[(0, .int .i64 6), (5, .int .i64 0)] (by rw [List.map_toArray]; rfl) (.agg (vaC 6 0 [] 0).toArray) (by exact bldVa _ _ _) ?_)
      | ((with_reducible show wpList _ _ _ (⟨some 11, _, _, _, _, _⟩ :: _) _ _); refine wpList_alloc _ rfl 100 rfl (vaC 0 0 [] 0) vaZero ?_; intro w2 a1 a2 a3; have HV2 := Lib.hid a1; have HR2 := Lib.hid (HR1.out.kept a2); have HB2 := Lib.hid (below_then HB1.out a2); clear a1 a2 a3)
      | ((with_reducible show wpList _ _ _ (⟨none, _, _, _, _, _⟩ :: _) _ _); refine wpList_storev _ rfl 100 (.tmp 11) (.tmp 17) rfl 6 (by kernel_rfl) w1.heap.size 0 _ (vaC 0 0 [] 0) (vaC 6 0 [] 0) rfl rfl HV2.out rfl (one_val _ rfl) (by decide) ?_; intro w3 a1 a2 a3; have HV3 : Hid (BL w3 w1.heap.size 100 (vaC 6 0 [] 0)) := Lib.hid a1; have HR3 := Lib.hid (a2.bl HR2.out (by have := HR1.out.lt; omega)); have HB3 : Hid (Below w.heap.size w w3) := Lib.hid (low_own HB2.out a2 (fun i hi e => by have := HB1.out.size; omega)); clear a1 a2 a3)
      | ((with_reducible show wpList _ _ _ (⟨some 25, _, _, _, _, _⟩ :: _) _ _); refine wpList_loadv _ rfl 100 (.tmp 11) rfl 6 (by kernel_rfl) w1.heap.size 0 (vaC 6 0 [] 0) rfl (BL.all HV3.out) rfl ?_)
      | ((with_reducible show wpList _ _ _ (⟨none, _, _, _, _, _⟩ :: _) _ _); refine wpList_storev _ rfl 100 (.tmp 8) (.tmp 25) rfl 6 (by kernel_rfl) w.heap.size 0 _ (vaC 0 0 [] 0) (vaC 6 0 [] 0) rfl rfl HR3.out rfl (one_val _ rfl) (by decide) ?_; intro w9 a1 a2 a3; have HR9 : Hid (BL w9 w.heap.size 100 (vaC 6 0 [] 0)) := Lib.hid a1; have HB9 : Hid (Below w.heap.size w w9) := Lib.hid (low_own HB3.out a2 (fun i hi e => by omega)); clear a1 a2 a3)
      | fail)
    refine bodyPost_ret (results_at3 w9 Tryz.results75 (n := 6) (by kernel_rfl) (g := w.heap.size) (o := 0) rfl (ms := (vaC 6 0 [] 0)) (BL.all HR9.out) rfl) rfl ?_
    rw [HD.out]
    exact ⟨rfl, HB9.out⟩
theorem runzig_any (n : Nat) (hn : n < 18446744073709551616) (w : World) : Calls Tryz.prog 98 #[.int .u64 (n : Int)] w fun e w' => e = .returned (.int .i64 (unz n)) ∧ w' = w := by
  have t1 : (n : Int).tmod 2 = ((n % 2 : Nat) : Int) := rfl
  have t2 : (n : Int).tdiv 2 = ((n / 2 : Nat) : Int) := rfl
  have w1 : IntKind.u64.wrap ((n % 2 : Nat) : Int) = ((n % 2 : Nat) : Int) := by show ((n % 2 : Nat) : Int) % 18446744073709551616 = _; omega
  have w2 : IntKind.u64.wrap ((n / 2 : Nat) : Int) = ((n / 2 : Nat) : Int) := by show ((n / 2 : Nat) : Int) % 18446744073709551616 = _; omega
  have w3 : IntKind.i64.wrap ((n / 2 : Nat) : Int) = ((n / 2 : Nat) : Int) := IntWalk.i64_in _ (by omega)
  have w4 : IntKind.i64.wrap (-((n / 2 : Nat) : Int)) = -((n / 2 : Nat) : Int) := IntWalk.i64_in _ (by omega)
  have w5 : IntKind.i64.wrap (-((n / 2 : Nat) : Int) - 1) = -((n / 2 : Nat) : Int) - 1 := IntWalk.i64_in _ (by omega)
  by_cases h : n % 2 = 1
  · have e1 : (((n % 2 : Nat) : Int) == 0) = false := by rw [h]; rfl
    rw [unz, if_pos h]
    clear h
    go_enter Tryz.func98, Tryz.ntmps98
    go_wp2_with fail
    go_ret
    exact ⟨rfl, rfl⟩
  · have e1 : (((n % 2 : Nat) : Int) == 0) = true := by rw [beq_iff_eq]; omega
    rw [unz, if_neg h]
    clear h
    go_enter Tryz.func98, Tryz.ntmps98
    go_wp2_with fail
    go_ret
    exact ⟨rfl, rfl⟩
set_option maxRecDepth 100000 in
set_option maxHeartbeats 2000000 in
theorem rread_int (A : Option Addr) (n c : Nat) (b : List UInt8) (a : Nat) (w : World) (h : BS w A n c b) (ha : a ≤ n) :
    Calls Tryz.prog 75 #[.slice A n c, .int .i64 (a : Int), .int .i64 2, .int .i64 0] w fun e w' => e = .returned (.tuple #[.agg (vaC 2 (unz (vO 0 (uD (b.drop a)))) [] 0).toArray, .int .i64 ((nxO a (uD (b.drop a)) : Nat) : Int), .int .i64 (eO (uD (b.drop a)))]) ∧ Below w.heap.size w w' := by
  have H := Lib.hid h
  clear h
  cases hn : num (b.drop a) with
  | none =>
    have HD : Hid (uD (b.drop a) = .error 3) := Lib.hid (by rw [uD, hn])
    have HNC : Hid (∀ w9 : World, BS w9 A n c b → Calls Tryz.prog 97 #[.slice A n c, .int .i64 (a : Int)] w9 fun e w' => e = .returned (.tuple #[.int .u64 0, .int .i64 0, .bool false]) ∧ Below w9.heap.size w9 w') := Lib.hid (fun w9 h9 => by
      have h8 := rnumber_any A n c b a w9 h9 ha
      rw [hn] at h8
      exact h8)
    clear hn
    go_enter Tryz.func75, Tryz.ntmps75
    go_wp2_with (first
      | ((with_reducible show wpList _ _ _ (⟨some 8, _, _, _, _, _⟩ :: _) _ _); refine wpList_alloc _ rfl 100 rfl (vaC 0 0 [] 0) vaZero ?_; intro w1 a1 a2 a3; have HR1 := Lib.hid a1; have HB1 := Lib.hid a2; clear a1 a2 a3)
      | ((with_reducible show wpList _ _ _ (⟨some 17, _, _, _, _, _⟩ :: _) _ _); refine wpList_build _ rfl 100 _ rfl #[(0, .int .i64 2), (5, .int .i64 0)] (by rw [List.map_toArray]; rfl) (.agg (vaC 2 0 [] 0).toArray) (by exact bldVa _ _ _) ?_)
      | ((with_reducible show wpList _ _ _ (⟨some 11, _, _, _, _, _⟩ :: _) _ _); refine wpList_alloc _ rfl 100 rfl (vaC 0 0 [] 0) vaZero ?_; intro w2 a1 a2 a3; have HV2 := Lib.hid a1; have HR2 := Lib.hid (HR1.out.kept a2); have HB2 := Lib.hid (below_then HB1.out a2); clear a1 a2 a3)
      | ((with_reducible show wpList _ _ _ (⟨none, _, _, _, _, _⟩ :: _) _ _); refine wpList_storev _ rfl 100 (.tmp 11) (.tmp 17) rfl 6 (by kernel_rfl) w1.heap.size 0 _ (vaC 0 0 [] 0) (vaC 2 0 [] 0) rfl rfl HV2.out rfl (one_val _ rfl) (by decide) ?_; intro w3 a1 a2 a3; have HV3 : Hid (BL w3 w1.heap.size 100 (vaC 2 0 [] 0)) := Lib.hid a1; have HR3 := Lib.hid (a2.bl HR2.out (by have := HR1.out.lt; omega)); have HB3 : Hid (Below w.heap.size w w3) := Lib.hid (low_own HB2.out a2 (fun i hi e => by have := HB1.out.size; omega)); clear a1 a2 a3)
      | (go_at_call 97; refine (HNC.out w3 (H.out.kept HB3.out)).mono ?_; rintro e w4 ⟨rfl, b1⟩; have HV4 := Lib.hid (HV3.out.kept b1); have HR4 := Lib.hid (HR3.out.kept b1); have HB4 := Lib.hid (below_then HB3.out b1); clear b1)
      | ((with_reducible show wpList _ _ _ (⟨some 70, _, _, _, _, _⟩ :: _) _ _); refine wpList_loadv _ rfl 100 (.tmp 11) rfl 6 (by kernel_rfl) w1.heap.size 0 (vaC 2 0 [] 0) rfl (BL.all HV4.out) rfl ?_)
      | ((with_reducible show wpList _ _ _ (⟨none, _, _, _, _, _⟩ :: _) _ _); refine wpList_storev _ rfl 100 (.tmp 8) (.tmp 70) rfl 6 (by kernel_rfl) w.heap.size 0 _ (vaC 0 0 [] 0) (vaC 2 0 [] 0) rfl rfl HR4.out rfl (one_val _ rfl) (by decide) ?_; intro w9 a1 a2 a3; have HR9 : Hid (BL w9 w.heap.size 100 (vaC 2 0 [] 0)) := Lib.hid a1; have HB9 : Hid (Below w.heap.size w w9) := Lib.hid (low_own HB4.out a2 (fun i hi e => by omega)); clear a1 a2 a3)
      | fail)
    refine bodyPost_ret (results_at3 w9 Tryz.results75 (n := 6) (by kernel_rfl) (g := w.heap.size) (o := 0) rfl (ms := (vaC 2 0 [] 0)) (BL.all HR9.out) rfl) rfl ?_
    rw [HD.out]
    exact ⟨rfl, HB9.out⟩
  | some x =>
    obtain ⟨v, k⟩ := x
    have HD : Hid (uD (b.drop a) = .ok (v, k)) := Lib.hid (by rw [uD, hn])
    have HVB : Hid (v < 18446744073709551616) := Lib.hid (num_bound 10 0 0 _ v k rfl (by decide) hn)
    have HNC : Hid (∀ w9 : World, BS w9 A n c b → Calls Tryz.prog 97 #[.slice A n c, .int .i64 (a : Int)] w9 fun e w' => e = .returned (.tuple #[.int .u64 (v : Int), .int .i64 ((a + k : Nat) : Int), .bool true]) ∧ Below w9.heap.size w9 w') := Lib.hid (fun w9 h9 => by
      have h8 := rnumber_any A n c b a w9 h9 ha
      rw [hn] at h8
      exact h8)
    clear hn
    obtain ⟨ak, hak⟩ : ∃ ak, ak = a + k := ⟨_, rfl⟩
    rw [← hak] at HNC
    have HAK := Lib.hid hak
    clear hak
    go_enter Tryz.func75, Tryz.ntmps75
    go_wp2_with (first
      | ((with_reducible show wpList _ _ _ (⟨some 8, _, _, _, _, _⟩ :: _) _ _); refine wpList_alloc _ rfl 100 rfl (vaC 0 0 [] 0) vaZero ?_; intro w1 a1 a2 a3; have HR1 := Lib.hid a1; have HB1 := Lib.hid a2; clear a1 a2 a3)
      | ((with_reducible show wpList _ _ _ (⟨some 17, _, _, _, _, _⟩ :: _) _ _); refine wpList_build _ rfl 100 _ rfl #[(0, .int .i64 2), (5, .int .i64 0)] (by rw [List.map_toArray]; rfl) (.agg (vaC 2 0 [] 0).toArray) (by exact bldVa _ _ _) ?_)
      | ((with_reducible show wpList _ _ _ (⟨some 11, _, _, _, _, _⟩ :: _) _ _); refine wpList_alloc _ rfl 100 rfl (vaC 0 0 [] 0) vaZero ?_; intro w2 a1 a2 a3; have HV2 := Lib.hid a1; have HR2 := Lib.hid (HR1.out.kept a2); have HB2 := Lib.hid (below_then HB1.out a2); clear a1 a2 a3)
      | ((with_reducible show wpList _ _ _ (⟨none, _, _, _, _, _⟩ :: _) _ _); refine wpList_storev _ rfl 100 (.tmp 11) (.tmp 17) rfl 6 (by kernel_rfl) w1.heap.size 0 _ (vaC 0 0 [] 0) (vaC 2 0 [] 0) rfl rfl HV2.out rfl (one_val _ rfl) (by decide) ?_; intro w3 a1 a2 a3; have HV3 : Hid (BL w3 w1.heap.size 100 (vaC 2 0 [] 0)) := Lib.hid a1; have HR3 := Lib.hid (a2.bl HR2.out (by have := HR1.out.lt; omega)); have HB3 : Hid (Below w.heap.size w w3) := Lib.hid (low_own HB2.out a2 (fun i hi e => by have := HB1.out.size; omega)); clear a1 a2 a3)
      | (go_at_call 97; refine (HNC.out w3 (H.out.kept HB3.out)).mono ?_; rintro e w4 ⟨rfl, b1⟩; have HV4 := Lib.hid (HV3.out.kept b1); have HR4 := Lib.hid (HR3.out.kept b1); have HB4 := Lib.hid (below_then HB3.out b1); clear b1)
      | (go_at_call 98; refine (runzig_any v HVB.out w4).mono ?_; rintro e w5 ⟨rfl, hw⟩; rw [hw]; clear hw w5)
      | ((with_reducible show wpList _ _ _ (⟨none, _, _, _, _, _⟩ :: _) _ _); refine wpList_store1 _ rfl 3 (.tmp 83) (.tmp 82) rfl (sz1 _ (by kernel_rfl) _) w1.heap.size 2 _ _ (.int .i64 (unz v)) rfl rfl HV4.out rfl rfl (by simp [vaC]) ?_; intro w5 a1 a2 a3; have HV5 : Hid (BL w5 w1.heap.size 100 (vaC 2 (unz v) [] 0)) := Lib.hid a1; have HR5 := Lib.hid (a2.bl HR4.out (by have := HR1.out.lt; omega)); have HB5 : Hid (Below w.heap.size w w5) := Lib.hid (low_own HB4.out a2 (fun i hi e => by have := HB1.out.size; omega)); clear a1 a2 a3)
      | ((with_reducible show wpList _ _ _ (⟨some 84, _, _, _, _, _⟩ :: _) _ _); refine wpList_loadv _ rfl 100 (.tmp 11) rfl 6 (by kernel_rfl) w1.heap.size 0 (vaC 2 (unz v) [] 0) rfl (BL.all HV5.out) rfl ?_)
      | ((with_reducible show wpList _ _ _ (⟨none, _, _, _, _, _⟩ :: _) _ _); refine wpList_storev _ rfl 100 (.tmp 8) (.tmp 84) rfl 6 (by kernel_rfl) w.heap.size 0 _ (vaC 0 0 [] 0) (vaC 2 (unz v) [] 0) rfl rfl HR5.out rfl (one_val _ rfl) (by decide) ?_; intro w9 a1 a2 a3; have HR9 : Hid (BL w9 w.heap.size 100 (vaC 2 (unz v) [] 0)) := Lib.hid a1; have HB9 : Hid (Below w.heap.size w w9) := Lib.hid (low_own HB5.out a2 (fun i hi e => by omega)); clear a1 a2 a3)
      | fail)
    refine bodyPost_ret (results_at3 w9 Tryz.results75 (n := 6) (by kernel_rfl) (g := w.heap.size) (o := 0) rfl (ms := (vaC 2 (unz v) [] 0)) (BL.all HR9.out) rfl) rfl ?_
    rw [HD.out]
    exact ⟨by rw [HAK.out]; rfl, HB9.out⟩
set_option maxRecDepth 100000 in
set_option maxHeartbeats 2000000 in
theorem rread_count (m : Nat) (hm : m ≤ 1099511627776) (A : Option Addr) (n c : Nat) (b : List UInt8) (a : Nat) (w : World) (h : BS w A n c b) (ha : a ≤ n) :
    Calls Tryz.prog 75 #[.slice A n c, .int .i64 (a : Int), .int .i64 7, .int .i64 (m : Int)] w fun e w' => e = .returned (.tuple #[.agg (vaC 7 ((vO 0 (cD m (b.drop a)) : Nat) : Int) [] (m : Int)).toArray, .int .i64 ((nxO a (cD m (b.drop a)) : Nat) : Int), .int .i64 (eO (cD m (b.drop a)))]) ∧ Below w.heap.size w w' := by
  have H := Lib.hid h
  clear h
  have g1 : decide ((m : Int) < 0) = false := decide_eq_false (by omega)
  have g2 : IntKind.u64.wrap (m : Int) = (m : Int) := by show (m : Int) % 18446744073709551616 = _; omega
  cases hn : num (b.drop a) with
  | none =>
    have HD : Hid (cD m (b.drop a) = .error 3) := Lib.hid (by rw [cD, hn])
    have HNC : Hid (∀ w9 : World, BS w9 A n c b → Calls Tryz.prog 97 #[.slice A n c, .int .i64 (a : Int)] w9 fun e w' => e = .returned (.tuple #[.int .u64 0, .int .i64 0, .bool false]) ∧ Below w9.heap.size w9 w') := Lib.hid (fun w9 h9 => by
      have h8 := rnumber_any A n c b a w9 h9 ha
      rw [hn] at h8
      exact h8)
    clear hn
    go_enter Tryz.func75, Tryz.ntmps75
    go_wp2_with (first
      | ((with_reducible show wpList _ _ _ (⟨some 8, _, _, _, _, _⟩ :: _) _ _); refine wpList_alloc _ rfl 100 rfl (vaC 0 0 [] 0) vaZero ?_; intro w1 a1 a2 a3; have HR1 := Lib.hid a1; have HB1 := Lib.hid a2; clear a1 a2 a3)
      | ((with_reducible show wpList _ _ _ (⟨some 17, _, _, _, _, _⟩ :: _) _ _); refine wpList_build _ rfl 100 _ rfl #[(0, .int .i64 7), (5, .int .i64 (m : Int))] (by rw [List.map_toArray]; rfl) (.agg (vaC 7 0 [] (m : Int)).toArray) (by exact bldVa _ _ _) ?_)
      | ((with_reducible show wpList _ _ _ (⟨some 11, _, _, _, _, _⟩ :: _) _ _); refine wpList_alloc _ rfl 100 rfl (vaC 0 0 [] 0) vaZero ?_; intro w2 a1 a2 a3; have HV2 := Lib.hid a1; have HR2 := Lib.hid (HR1.out.kept a2); have HB2 := Lib.hid (below_then HB1.out a2); clear a1 a2 a3)
      | ((with_reducible show wpList _ _ _ (⟨none, _, _, _, _, _⟩ :: _) _ _); refine wpList_storev _ rfl 100 (.tmp 11) (.tmp 17) rfl 6 (by kernel_rfl) w1.heap.size 0 _ (vaC 0 0 [] 0) (vaC 7 0 [] (m : Int)) rfl rfl HV2.out rfl (one_val _ rfl) (by decide) ?_; intro w3 a1 a2 a3; have HV3 : Hid (BL w3 w1.heap.size 100 (vaC 7 0 [] (m : Int))) := Lib.hid a1; have HR3 := Lib.hid (a2.bl HR2.out (by have := HR1.out.lt; omega)); have HB3 : Hid (Below w.heap.size w w3) := Lib.hid (low_own HB2.out a2 (fun i hi e => by have := HB1.out.size; omega)); clear a1 a2 a3)
      | (go_at_call 97; refine (HNC.out w3 (H.out.kept HB3.out)).mono ?_; rintro e w4 ⟨rfl, b1⟩; have HV4 := Lib.hid (HV3.out.kept b1); have HR4 := Lib.hid (HR3.out.kept b1); have HB4 := Lib.hid (below_then HB3.out b1); clear b1)
      | ((with_reducible show wpList _ _ _ (⟨some 70, _, _, _, _, _⟩ :: _) _ _); refine wpList_loadv _ rfl 100 (.tmp 11) rfl 6 (by kernel_rfl) w1.heap.size 0 (vaC 7 0 [] (m : Int)) rfl (BL.all HV4.out) rfl ?_)
      | ((with_reducible show wpList _ _ _ (⟨none, _, _, _, _, _⟩ :: _) _ _); refine wpList_storev _ rfl 100 (.tmp 8) (.tmp 70) rfl 6 (by kernel_rfl) w.heap.size 0 _ (vaC 0 0 [] 0) (vaC 7 0 [] (m : Int)) rfl rfl HR4.out rfl (one_val _ rfl) (by decide) ?_; intro w9 a1 a2 a3; have HR9 : Hid (BL w9 w.heap.size 100 (vaC 7 0 [] (m : Int))) := Lib.hid a1; have HB9 : Hid (Below w.heap.size w w9) := Lib.hid (low_own HB4.out a2 (fun i hi e => by omega)); clear a1 a2 a3)
      | fail)
    refine bodyPost_ret (results_at3 w9 Tryz.results75 (n := 6) (by kernel_rfl) (g := w.heap.size) (o := 0) rfl (ms := (vaC 7 0 [] (m : Int))) (BL.all HR9.out) rfl) rfl ?_
    rw [HD.out]
    exact ⟨rfl, HB9.out⟩
  | some x =>
    obtain ⟨v, k⟩ := x
    have HNC : Hid (∀ w9 : World, BS w9 A n c b → Calls Tryz.prog 97 #[.slice A n c, .int .i64 (a : Int)] w9 fun e w' => e = .returned (.tuple #[.int .u64 (v : Int), .int .i64 ((a + k : Nat) : Int), .bool true]) ∧ Below w9.heap.size w9 w') := Lib.hid (fun w9 h9 => by
      have h8 := rnumber_any A n c b a w9 h9 ha
      rw [hn] at h8
      exact h8)
    obtain ⟨ak, hak⟩ : ∃ ak, ak = a + k := ⟨_, rfl⟩
    rw [← hak] at HNC
    have HAK := Lib.hid hak
    clear hak
    by_cases hv : v ≤ m
    · have HD : Hid (cD m (b.drop a) = .ok (v, k)) := Lib.hid (cD_ok hn hv)
      have g3 : decide ((m : Int) < (v : Int)) = false := decide_eq_false (by omega)
      have g3' : decide (m < v) = false := decide_eq_false (by omega)
      have g4 : IntKind.i64.wrap (v : Int) = (v : Int) := IntWalk.i64_in _ (by omega)
      clear hn hv
      go_enter Tryz.func75, Tryz.ntmps75
      go_wp2_with (first
        | ((with_reducible show wpList _ _ _ (⟨some 8, _, _, _, _, _⟩ :: _) _ _); refine wpList_alloc _ rfl 100 rfl (vaC 0 0 [] 0) vaZero ?_; intro w1 a1 a2 a3; have HR1 := Lib.hid a1; have HB1 := Lib.hid a2; clear a1 a2 a3)
        | ((with_reducible show wpList _ _ _ (⟨some 17, _, _, _, _, _⟩ :: _) _ _); refine wpList_build _ rfl 100 _ rfl #[(0, .int .i64 7), (5, .int .i64 (m : Int))] (by rw [List.map_toArray]; rfl) (.agg (vaC 7 0 [] (m : Int)).toArray) (by exact bldVa _ _ _) ?_)
        | ((with_reducible show wpList _ _ _ (⟨some 11, _, _, _, _, _⟩ :: _) _ _); refine wpList_alloc _ rfl 100 rfl (vaC 0 0 [] 0) vaZero ?_; intro w2 a1 a2 a3; have HV2 := Lib.hid a1; have HR2 := Lib.hid (HR1.out.kept a2); have HB2 := Lib.hid (below_then HB1.out a2); clear a1 a2 a3)
        | ((with_reducible show wpList _ _ _ (⟨none, _, _, _, _, _⟩ :: _) _ _); refine wpList_storev _ rfl 100 (.tmp 11) (.tmp 17) rfl 6 (by kernel_rfl) w1.heap.size 0 _ (vaC 0 0 [] 0) (vaC 7 0 [] (m : Int)) rfl rfl HV2.out rfl (one_val _ rfl) (by decide) ?_; intro w3 a1 a2 a3; have HV3 : Hid (BL w3 w1.heap.size 100 (vaC 7 0 [] (m : Int))) := Lib.hid a1; have HR3 := Lib.hid (a2.bl HR2.out (by have := HR1.out.lt; omega)); have HB3 : Hid (Below w.heap.size w w3) := Lib.hid (low_own HB2.out a2 (fun i hi e => by have := HB1.out.size; omega)); clear a1 a2 a3)
        | (go_at_call 97; refine (HNC.out w3 (H.out.kept HB3.out)).mono ?_; rintro e w4 ⟨rfl, b1⟩; have HV4 := Lib.hid (HV3.out.kept b1); have HR4 := Lib.hid (HR3.out.kept b1); have HB4 := Lib.hid (below_then HB3.out b1); clear b1)
        | ((with_reducible show wpList _ _ _ (⟨none, _, _, _, _, _⟩ :: _) _ _); refine wpList_store1 _ rfl 3 (.tmp 97) (.tmp 96) rfl (sz1 _ (by kernel_rfl) _) w1.heap.size 2 _ _ (.int .i64 (v : Int)) rfl rfl HV4.out rfl rfl (by simp [vaC]) ?_; intro w5 a1 a2 a3; have HV5 : Hid (BL w5 w1.heap.size 100 (vaC 7 (v : Int) [] (m : Int))) := Lib.hid a1; have HR5 := Lib.hid (a2.bl HR4.out (by have := HR1.out.lt; omega)); have HB5 : Hid (Below w.heap.size w w5) := Lib.hid (low_own HB4.out a2 (fun i hi e => by have := HB1.out.size; omega)); clear a1 a2 a3)
        | ((with_reducible show wpList _ _ _ (⟨some 98, _, _, _, _, _⟩ :: _) _ _); refine wpList_loadv _ rfl 100 (.tmp 11) rfl 6 (by kernel_rfl) w1.heap.size 0 (vaC 7 (v : Int) [] (m : Int)) rfl (BL.all HV5.out) rfl ?_)
        | ((with_reducible show wpList _ _ _ (⟨none, _, _, _, _, _⟩ :: _) _ _); refine wpList_storev _ rfl 100 (.tmp 8) (.tmp 98) rfl 6 (by kernel_rfl) w.heap.size 0 _ (vaC 0 0 [] 0) (vaC 7 (v : Int) [] (m : Int)) rfl rfl HR5.out rfl (one_val _ rfl) (by decide) ?_; intro w9 a1 a2 a3; have HR9 : Hid (BL w9 w.heap.size 100 (vaC 7 (v : Int) [] (m : Int))) := Lib.hid a1; have HB9 : Hid (Below w.heap.size w w9) := Lib.hid (low_own HB5.out a2 (fun i hi e => by omega)); clear a1 a2 a3)
        | fail)
      refine bodyPost_ret (results_at3 w9 Tryz.results75 (n := 6) (by kernel_rfl) (g := w.heap.size) (o := 0) rfl (ms := (vaC 7 (v : Int) [] (m : Int))) (BL.all HR9.out) rfl) rfl ?_
      rw [HD.out]
      exact ⟨by rw [HAK.out]; rfl, HB9.out⟩
    · have HD : Hid (cD m (b.drop a) = .error 2) := Lib.hid (cD_big hn hv)
      have g3 : decide ((m : Int) < (v : Int)) = true := decide_eq_true (by omega)
      have g3' : decide (m < v) = true := decide_eq_true (by omega)
      clear hn hv
      go_enter Tryz.func75, Tryz.ntmps75
      go_wp2_with (first
        | ((with_reducible show wpList _ _ _ (⟨some 8, _, _, _, _, _⟩ :: _) _ _); refine wpList_alloc _ rfl 100 rfl (vaC 0 0 [] 0) vaZero ?_; intro w1 a1 a2 a3; have HR1 := Lib.hid a1; have HB1 := Lib.hid a2; clear a1 a2 a3)
        | ((with_reducible show wpList _ _ _ (⟨some 17, _, _, _, _, _⟩ :: _) _ _); refine wpList_build _ rfl 100 _ rfl #[(0, .int .i64 7), (5, .int .i64 (m : Int))] (by rw [List.map_toArray]; rfl) (.agg (vaC 7 0 [] (m : Int)).toArray) (by exact bldVa _ _ _) ?_)
        | ((with_reducible show wpList _ _ _ (⟨some 11, _, _, _, _, _⟩ :: _) _ _); refine wpList_alloc _ rfl 100 rfl (vaC 0 0 [] 0) vaZero ?_; intro w2 a1 a2 a3; have HV2 := Lib.hid a1; have HR2 := Lib.hid (HR1.out.kept a2); have HB2 := Lib.hid (below_then HB1.out a2); clear a1 a2 a3)
        | ((with_reducible show wpList _ _ _ (⟨none, _, _, _, _, _⟩ :: _) _ _); refine wpList_storev _ rfl 100 (.tmp 11) (.tmp 17) rfl 6 (by kernel_rfl) w1.heap.size 0 _ (vaC 0 0 [] 0) (vaC 7 0 [] (m : Int)) rfl rfl HV2.out rfl (one_val _ rfl) (by decide) ?_; intro w3 a1 a2 a3; have HV3 : Hid (BL w3 w1.heap.size 100 (vaC 7 0 [] (m : Int))) := Lib.hid a1; have HR3 := Lib.hid (a2.bl HR2.out (by have := HR1.out.lt; omega)); have HB3 : Hid (Below w.heap.size w w3) := Lib.hid (low_own HB2.out a2 (fun i hi e => by have := HB1.out.size; omega)); clear a1 a2 a3)
        | (go_at_call 97; refine (HNC.out w3 (H.out.kept HB3.out)).mono ?_; rintro e w4 ⟨rfl, b1⟩; have HV4 := Lib.hid (HV3.out.kept b1); have HR4 := Lib.hid (HR3.out.kept b1); have HB4 := Lib.hid (below_then HB3.out b1); clear b1)
        | ((with_reducible show wpList _ _ _ (⟨some 91, _, _, _, _, _⟩ :: _) _ _); refine wpList_loadv _ rfl 100 (.tmp 11) rfl 6 (by kernel_rfl) w1.heap.size 0 (vaC 7 0 [] (m : Int)) rfl (BL.all HV4.out) rfl ?_)
        | ((with_reducible show wpList _ _ _ (⟨none, _, _, _, _, _⟩ :: _) _ _); refine wpList_storev _ rfl 100 (.tmp 8) (.tmp 91) rfl 6 (by kernel_rfl) w.heap.size 0 _ (vaC 0 0 [] 0) (vaC 7 0 [] (m : Int)) rfl rfl HR4.out rfl (one_val _ rfl) (by decide) ?_; intro w9 a1 a2 a3; have HR9 : Hid (BL w9 w.heap.size 100 (vaC 7 0 [] (m : Int))) := Lib.hid a1; have HB9 : Hid (Below w.heap.size w w9) := Lib.hid (low_own HB4.out a2 (fun i hi e => by omega)); clear a1 a2 a3)
        | fail)
      refine bodyPost_ret (results_at3 w9 Tryz.results75 (n := 6) (by kernel_rfl) (g := w.heap.size) (o := 0) rfl (ms := (vaC 7 0 [] (m : Int))) (BL.all HR9.out) rfl) rfl ?_
      rw [HD.out]
      exact ⟨rfl, HB9.out⟩
end Go.Proofs.YtheijpjfpaghfaaGreatDoor
