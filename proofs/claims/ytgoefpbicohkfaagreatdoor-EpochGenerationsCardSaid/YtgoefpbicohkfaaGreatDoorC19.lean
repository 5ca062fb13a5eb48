/- Several texts in one: Er, Eg, Eh. -/
import Derived.Test.YtgoefpbicohkfaaGreatDoorC18
import Derived.Test.YtgoefpbicohkfaaGreatDoorShelf
/- How entries and proposals lie in memory. -/
namespace Go.Proofs.YtgoefpbicohkfaaGreatDoor
open Go Go.ChangeShapes Go.WideShapes Go.ChangeAt Go.RowKit Gf Sha

/-- An entry. -/
structure En where
  dev : Int
  seq : Int
  kind : Int
  day : Int
  body : List UInt8
  prev : List UInt8
/-- A proposal. -/
structure Pp where
  dev : Int
  seq : Int
  vault : Int
  ws : List Int
  ss : List (List UInt8)
theorem Pp.eq_of {p q : Pp} (h1 : p.dev = q.dev) (h2 : p.seq = q.seq) (h3 : p.vault = q.vault) (h4 : p.ws = q.ws) (h5 : p.ss = q.ss) : p = q := by
  cases p; cases q; simp only at h1 h2 h3 h4 h5; subst h1 h2 h3 h4 h5; rfl
abbrev enC (x : En) (A : Option Addr) (n c : Nat) : List Value := [.int .i64 x.dev, .int .i64 x.seq, .int .i64 x.kind, .int .i64 x.day, .slice A n c, .string (strB x.prev)]
abbrev ppC (p : Pp) (A1 : Option Addr) (n1 c1 : Nat) (A2 : Option Addr) (n2 c2 : Nat) : List Value := [.int .i64 p.dev, .int .i64 p.seq, .int .i64 p.vault, .slice A1 n1 c1, .slice A2 n2 c2]
def rEn : Rdg En := fun w cs x => ∃ A n c, cs = enC x A n c ∧ BS w A n c x.body ∧ wfI x.dev ∧ wfI x.seq ∧ wfI x.kind ∧ wfI x.day ∧ x.prev.length ≤ reachBytes
def rPp : Rdg Pp := fun w cs p => ∃ A1 n1 c1 A2 n2 c2, cs = ppC p A1 n1 c1 A2 n2 c2 ∧ LS rInt 1 8 w A1 n1 c1 p.ws ∧ LS rStr 1 16 w A2 n2 c2 p.ss ∧ wfI p.dev ∧ wfI p.seq ∧ wfI p.vault
theorem stay_en : Stay rEn := fun _ _ _ _ ⟨A, n, c, e, h, r⟩ hb => ⟨A, n, c, e, h.kept hb, r⟩
theorem stay_pp : Stay rPp := fun _ _ _ _ ⟨A1, n1, c1, A2, n2, c2, e, h1, h2, r⟩ hb => ⟨A1, n1, c1, A2, n2, c2, e, h1.kept stay_int hb, h2.kept stay_str hb, r⟩
theorem len_en {w : World} : ∀ cs x, rEn w cs x → cs.length = 6 := fun cs x ⟨A, n, c, e, _⟩ => by subst e; rfl
theorem len_pp {w : World} : ∀ cs x, rPp w cs x → cs.length = 5 := fun cs x ⟨A, n, c, _, _, _, e, _⟩ => by subst e; rfl
theorem len_int {w : World} : ∀ cs x, rInt w cs x → cs.length = 1 := fun cs x ⟨e, _⟩ => by subst e; rfl
theorem ones_int {w : World} : ∀ cs x, rInt w cs x → ∀ u ∈ cs, u.oneCell' = true := fun cs x ⟨e, _⟩ u hu => by
  subst e; simp only [List.mem_cons, List.not_mem_nil, or_false] at hu; subst hu; rfl
theorem one_en (x : En) (A : Option Addr) (n c : Nat) : ∀ v ∈ enC x A n c, v.oneCell' = true := fun v hv => by
  simp only [List.mem_cons, List.not_mem_nil, or_false] at hv
  rcases hv with rfl | rfl | rfl | rfl | rfl | rfl <;> rfl
theorem one_pp (p : Pp) (A1 : Option Addr) (n1 c1 : Nat) (A2 : Option Addr) (n2 c2 : Nat) : ∀ v ∈ ppC p A1 n1 c1 A2 n2 c2, v.oneCell' = true := fun v hv => by
  simp only [List.mem_cons, List.not_mem_nil, or_false] at hv
  rcases hv with rfl | rfl | rfl | rfl | rfl <;> rfl
theorem ones_en {w : World} : ∀ cs x, rEn w cs x → ∀ u ∈ cs, u.oneCell' = true := fun cs x ⟨A, n, c, e, _⟩ u hu => by subst e; exact one_en _ _ _ _ u hu
theorem ones_pp {w : World} : ∀ cs x, rPp w cs x → ∀ u ∈ cs, u.oneCell' = true := fun cs x ⟨A, n, c, A2, n2, c2, e, _⟩ u hu => by subst e; exact one_pp _ _ _ _ _ _ _ u hu
def enZ : List Value := [.int .i64 0, .int .i64 0, .int .i64 0, .int .i64 0, .slice none 0 0, .string (strB [])]
def ppZ : List Value := [.int .i64 0, .int .i64 0, .int .i64 0, .slice none 0 0, .slice none 0 0]
def pp0 : Pp := ⟨0, 0, 0, [], []⟩
def en0 : En := ⟨0, 0, 0, 0, [], []⟩
theorem wfI0 : wfI 0 := by rfl
theorem rPp_zero (w : World) : rPp w ppZ pp0 := ⟨none, 0, 0, none, 0, 0, rfl, LS.nil, LS.nil, wfI0, wfI0, wfI0⟩
theorem rEn_zero (w : World) : rEn w enZ en0 := ⟨none, 0, 0, rfl, BS.nil, wfI0, wfI0, wfI0, wfI0, Nat.zero_le _⟩
theorem enZero : (Tryz.prog.info? 38).map (·.zero) = some (some (.agg enZ.toArray)) := by kernel_rfl
theorem ppZero : (Tryz.prog.info? 34).map (·.zero) = some (some (.agg ppZ.toArray)) := by kernel_rfl
theorem infoEn : (Tryz.prog.info? 38).map (fun i => (i.zero, i.size, i.bytes)) = some (some (.agg enZ.toArray), 6, 72) := by kernel_rfl
theorem infoPp : (Tryz.prog.info? 34).map (fun i => (i.zero, i.size, i.bytes)) = some (some (.agg ppZ.toArray), 5, 72) := by kernel_rfl
theorem infoI : (Tryz.prog.info? 3).map (fun i => (i.zero, i.size, i.bytes)) = some (some (.int .i64 0), 1, 8) := by kernel_rfl
theorem bslI (z : Int) (w : World) : (Instr.buildSlice 31 1 #[(0, .int .i64 z)]).run Tryz.prog w = .ok (.slice (some ⟨w.heap.size, 0, none⟩) 1 1) (w.alloc (.cells [.int .i64 z].toArray 3)) := by kernel_rfl
theorem bslStr (x : List UInt8) (w : World) : (Instr.buildSlice 25 1 #[(0, .string (strB x))]).run Tryz.prog w = .ok (.slice (some ⟨w.heap.size, 0, none⟩) 1 1) (w.alloc (.cells [.string (strB x)].toArray 9)) := by kernel_rfl
theorem LS.int_at {w w' : World} {A : Option Addr} {n c : Nat} {m : List Int} (h : LS rInt 1 8 w A n c m) (hb : Below w.heap.size w w') {k : Nat} (hk : k < n) :
    ∃ x g o, m[k]? = some x ∧ A = some ⟨g, o, none⟩ ∧ w'.cell? ⟨g, o + k, none⟩ = some (.int .i64 x) := by
  obtain ⟨x, g, o, cs, hx, e, hat, rfl, _⟩ := h.at_ stay_int hb hk
  refine ⟨x, g, o, hx, e, ?_⟩
  rw [Nat.mul_one] at hat
  exact hat 0 _ rfl
theorem LS.int_ok {w : World} {A : Option Addr} {n c : Nat} {m : List Int} (h : LS rInt 1 8 w A n c m) {k : Nat} {x : Int} (hk : m[k]? = some x) : wfI x := by
  have hlt : k < m.length := (List.getElem?_eq_some_iff.1 hk).1
  obtain ⟨_, _, _, _, _, _, h1⟩ := h.2.2.2 k hlt
  rw [List.getElem?_eq_getElem hlt] at hk
  cases hk
  exact h1
theorem gI_some {m : List Int} {k : Nat} {x : Int} (h : m[k]? = some x) : gI m k = x := by rw [gI, List.getD_eq_getElem?_getD, h]; rfl
/-- As the kit's laws on slices of ints want it. -/
theorem LS.ints {w : World} {A : Option Addr} {n c : Nat} {m : List Int} (h : LS rInt 1 8 w A n c m) (hn : 0 < n) : ∃ g o, A = some ⟨g, o, none⟩ ∧ ∀ j, j < m.length → w.cell? ⟨g, o + j, none⟩ = some (.int .i64 (m.getD j 0)) := by
  obtain ⟨_, g, o, _, rfl, _⟩ := h.int_at (Below.refl _ _) hn
  refine ⟨g, o, rfl, fun j hj => ?_⟩
  obtain ⟨x, g', o', hx, e, hc⟩ := h.int_at (Below.refl _ _) (show j < n by rw [← h.1]; exact hj)
  cases e
  rw [hc, List.getD_eq_getElem?_getD, hx]
  rfl
theorem LS.strs {w : World} {A : Option Addr} {n c : Nat} {m : List (List UInt8)} (h : LS rStr 1 16 w A n c m) (hn : 0 < n) : ∃ g o, A = some ⟨g, o, none⟩ ∧ ∀ j, j < m.length → w.cell? ⟨g, o + j, none⟩ = some (usC m[j]!) := by
  obtain ⟨_, g, o, _, rfl, _⟩ := h.str_at (Below.refl _ _) hn
  refine ⟨g, o, rfl, fun j hj => ?_⟩
  obtain ⟨x, g', o', hx, e, hc⟩ := h.str_at (Below.refl _ _) (show j < n by rw [← h.1]; exact hj)
  cases e
  rw [hc, getElem!_def, hx]
  rfl
/-- slices.Contains of ints. -/
theorem contains_any (A : Option Addr) (n c : Nat) (m : List Int) (x : Int) (w : World) (h : LS rInt 1 8 w A n c m) :
    Calls Tryz.prog 31 #[.slice A n c, .int .i64 x] w fun e w' => e = .returned (.bool (m.contains x)) ∧ w' = w := by
  rcases Nat.eq_zero_or_pos n with h0 | h0
  · have h1 := h.1
    subst h0
    obtain rfl : m = [] := List.eq_nil_of_length_eq_zero h1
    exact Tryz.slices_Contains_int_empty A c x w
  · obtain ⟨g, o, rfl, hc⟩ := h.ints h0
    have h1 := h.1
    have h2 := h.len_le
    refine (Tryz.slices_Contains_int g o n c m x w (by omega) (by omega) hc).mono ?_
    rintro e w' ⟨rfl, rfl⟩
    rw [← h1, List.take_length]
    exact ⟨rfl, rfl⟩
end Go.Proofs.YtgoefpbicohkfaaGreatDoor
/- Valid proposals, by the program and by the reference. -/
namespace Go.Proofs.YtgoefpbicohkfaaGreatDoor
open Go Go.RowKit Gf Sha

def ascAt (m : List (List UInt8)) (k : Nat) : Bool := decide ((gR m k).length = 32) && (decide (k = 0) || Op.bytesLess (gR m (k - 1)) (gR m k))
/-- Strictly ascending sums. -/
def ascB (m : List (List UInt8)) : Bool := (List.range m.length).all (ascAt m)
theorem asc_false {m : List (List UInt8)} {k : Nat} (hk : k < m.length) (h : ascAt m k = false) : ascB m = false := List.all_eq_false.2 ⟨k, List.mem_range.2 hk, by simp [h]⟩
theorem asc_true {m : List (List UInt8)} (h : ∀ k, k < m.length → ascAt m k = true) : ascB m = true := List.all_eq_true.2 fun k hk => h k (List.mem_range.1 hk)
def wAt (m : List Int) (k : Nat) : Bool := decide (0 ≤ gI m k) && (decide (gI m k < 12) && (decide (k = 0) || decide (gI m (k - 1) < gI m k)))
/-- Strictly ascending devices. -/
def wsB (m : List Int) : Bool := (List.range m.length).all (wAt m)
theorem ws_false {m : List Int} {k : Nat} (hk : k < m.length) (h : wAt m k = false) : wsB m = false := List.all_eq_false.2 ⟨k, List.mem_range.2 hk, by simp [h]⟩
theorem ws_true {m : List Int} (h : ∀ k, k < m.length → wAt m k = true) : wsB m = true := List.all_eq_true.2 fun k hk => h k (List.mem_range.1 hk)
/-- What is asked ahead of the lists' elements. -/
def headB (p : Pp) : Bool := decide (1 ≤ p.seq) && (decide (0 ≤ p.vault) && (decide (p.vault ≤ 11) && (p.ws.contains p.dev && (decide (p.ws.length ≤ 3) && (decide (1 ≤ p.ss.length) && decide (p.ss.length ≤ 1024))))))
def validB (p : Pp) : Bool := headB p && (wsB p.ws && ascB p.ss)
theorem valid_head {p : Pp} (h : headB p = false) : validB p = false := by rw [validB, h]; rfl
set_option maxRecDepth 100000 in
set_option maxHeartbeats 8000000 in
theorem valid_any (cs : List Value) (p : Pp) (w : World) (h : rPp w cs p) :
    Calls Tryz.prog 18 #[.agg cs.toArray] w fun e w' => e = .returned (.bool (validB p)) ∧ Below w.heap.size w w' := by
  obtain ⟨A1, n1, c1, A2, n2, c2, rfl, hl1, hl2, _⟩ := h
  have hn1 := hl1.len_le
  have hn2 := hl2.len_le
  have H1 := Lib.hid hl1
  have H2 := Lib.hid hl2
  have HL1 := Lib.hid hl1.1
  have HL2 := Lib.hid hl2.1
  clear hl1 hl2
  by_cases h1 : 1 ≤ p.seq
  rotate_left
  · have E : Hid (decide (1 ≤ p.seq) = false) := Lib.hid (decide_eq_false h1)
    have f1 : decide (p.seq < 1) = true := decide_eq_true (by omega)
    clear h1
    have HF : Hid (validB p = false) := Lib.hid (valid_head (by unfold headB; rw [E.out]; simp))
    go_enter Tryz.func18, Tryz.ntmps18
    go_wp2_with (first
      | ((with_reducible show wpList _ _ _ (⟨some 1, _, _, _, _, _⟩ :: _) _ _); refine wpList_box _ rfl 34 (.tmp 0) rfl (ppC p A1 n1 c1 A2 n2 c2) rfl ?_; intro w1 y1 y2 y3; have HB1 := Lib.hid y2; have q0 := y1.get (j := 0) rfl; have q1 := y1.get (j := 1) rfl; have q2 := y1.get (j := 2) rfl; have q3 := y1.get (j := 3) rfl; have q4 := y1.get (j := 4) rfl; have HP1 := Lib.hid y1; clear y1 y2 y3)
      | (go_at_call 31; refine (contains_any A1 n1 c1 p.ws p.dev w1 (H1.out.kept stay_int HB1.out)).mono ?_; rintro e w2 ⟨rfl, hw⟩; rw [hw, f4]; clear hw w2)
      | fail)
    go_ret
    exact ⟨ret_bool HF.out.symm, HB1.out⟩
  have f1 : decide (p.seq < 1) = false := decide_eq_false (by omega)
  by_cases h2 : 0 ≤ p.vault
  rotate_left
  · have E : Hid (decide (0 ≤ p.vault) = false) := Lib.hid (decide_eq_false h2)
    have f2 : decide (p.vault < 0) = true := decide_eq_true (by omega)
    clear h1 h2
    have HF : Hid (validB p = false) := Lib.hid (valid_head (by unfold headB; rw [E.out]; simp))
    go_enter Tryz.func18, Tryz.ntmps18
    go_wp2_with (first
      | ((with_reducible show wpList _ _ _ (⟨some 1, _, _, _, _, _⟩ :: _) _ _); refine wpList_box _ rfl 34 (.tmp 0) rfl (ppC p A1 n1 c1 A2 n2 c2) rfl ?_; intro w1 y1 y2 y3; have HB1 := Lib.hid y2; have q0 := y1.get (j := 0) rfl; have q1 := y1.get (j := 1) rfl; have q2 := y1.get (j := 2) rfl; have q3 := y1.get (j := 3) rfl; have q4 := y1.get (j := 4) rfl; have HP1 := Lib.hid y1; clear y1 y2 y3)
      | (go_at_call 31; refine (contains_any A1 n1 c1 p.ws p.dev w1 (H1.out.kept stay_int HB1.out)).mono ?_; rintro e w2 ⟨rfl, hw⟩; rw [hw, f4]; clear hw w2)
      | fail)
    go_ret
    exact ⟨ret_bool HF.out.symm, HB1.out⟩
  have f2 : decide (p.vault < 0) = false := decide_eq_false (by omega)
  by_cases h3 : p.vault ≤ 11
  rotate_left
  · have E : Hid (decide (p.vault ≤ 11) = false) := Lib.hid (decide_eq_false h3)
    have f3 : decide (11 < p.vault) = true := decide_eq_true (by omega)
    clear h1 h2 h3
    have HF : Hid (validB p = false) := Lib.hid (valid_head (by unfold headB; rw [E.out]; simp))
    go_enter Tryz.func18, Tryz.ntmps18
    go_wp2_with (first
      | ((with_reducible show wpList _ _ _ (⟨some 1, _, _, _, _, _⟩ :: _) _ _); refine wpList_box _ rfl 34 (.tmp 0) rfl (ppC p A1 n1 c1 A2 n2 c2) rfl ?_; intro w1 y1 y2 y3; have HB1 := Lib.hid y2; have q0 := y1.get (j := 0) rfl; have q1 := y1.get (j := 1) rfl; have q2 := y1.get (j := 2) rfl; have q3 := y1.get (j := 3) rfl; have q4 := y1.get (j := 4) rfl; have HP1 := Lib.hid y1; clear y1 y2 y3)
      | (go_at_call 31; refine (contains_any A1 n1 c1 p.ws p.dev w1 (H1.out.kept stay_int HB1.out)).mono ?_; rintro e w2 ⟨rfl, hw⟩; rw [hw, f4]; clear hw w2)
      | fail)
    go_ret
    exact ⟨ret_bool HF.out.symm, HB1.out⟩
  have f3 : decide (11 < p.vault) = false := decide_eq_false (by omega)
  cases f4 : p.ws.contains p.dev with
  | false =>
    have E := Lib.hid f4
    clear h1 h2 h3
    have HF : Hid (validB p = false) := Lib.hid (valid_head (by unfold headB; rw [E.out]; simp))
    go_enter Tryz.func18, Tryz.ntmps18
    go_wp2_with (first
      | ((with_reducible show wpList _ _ _ (⟨some 1, _, _, _, _, _⟩ :: _) _ _); refine wpList_box _ rfl 34 (.tmp 0) rfl (ppC p A1 n1 c1 A2 n2 c2) rfl ?_; intro w1 y1 y2 y3; have HB1 := Lib.hid y2; have q0 := y1.get (j := 0) rfl; have q1 := y1.get (j := 1) rfl; have q2 := y1.get (j := 2) rfl; have q3 := y1.get (j := 3) rfl; have q4 := y1.get (j := 4) rfl; have HP1 := Lib.hid y1; clear y1 y2 y3)
      | (go_at_call 31; refine (contains_any A1 n1 c1 p.ws p.dev w1 (H1.out.kept stay_int HB1.out)).mono ?_; rintro e w2 ⟨rfl, hw⟩; rw [hw, f4]; clear hw w2)
      | fail)
    go_ret
    exact ⟨ret_bool HF.out.symm, HB1.out⟩
  | true =>
  by_cases h5 : n1 ≤ 3
  rotate_left
  · have E : Hid (decide (p.ws.length ≤ 3) = false) := Lib.hid (decide_eq_false (by rw [HL1.out]; exact h5))
    have f5 : decide (3 < n1) = true := decide_eq_true (by omega)
    clear h1 h2 h3
    have HF : Hid (validB p = false) := Lib.hid (valid_head (by unfold headB; rw [E.out]; simp))
    go_enter Tryz.func18, Tryz.ntmps18
    go_wp2_with (first
      | ((with_reducible show wpList _ _ _ (⟨some 1, _, _, _, _, _⟩ :: _) _ _); refine wpList_box _ rfl 34 (.tmp 0) rfl (ppC p A1 n1 c1 A2 n2 c2) rfl ?_; intro w1 y1 y2 y3; have HB1 := Lib.hid y2; have q0 := y1.get (j := 0) rfl; have q1 := y1.get (j := 1) rfl; have q2 := y1.get (j := 2) rfl; have q3 := y1.get (j := 3) rfl; have q4 := y1.get (j := 4) rfl; have HP1 := Lib.hid y1; clear y1 y2 y3)
      | (go_at_call 31; refine (contains_any A1 n1 c1 p.ws p.dev w1 (H1.out.kept stay_int HB1.out)).mono ?_; rintro e w2 ⟨rfl, hw⟩; rw [hw, f4]; clear hw w2)
      | fail)
    go_ret
    exact ⟨ret_bool HF.out.symm, HB1.out⟩
  have f5 : decide (3 < n1) = false := decide_eq_false (by omega)
  by_cases h6 : 1 ≤ n2
  rotate_left
  · have E : Hid (decide (1 ≤ p.ss.length) = false) := Lib.hid (decide_eq_false (by rw [HL2.out]; exact h6))
    have f6 : decide (n2 < 1) = true := decide_eq_true (by omega)
    have f6' : decide (n2 = 0) = true := decide_eq_true (by omega)
    clear h1 h2 h3
    have HF : Hid (validB p = false) := Lib.hid (valid_head (by unfold headB; rw [E.out]; simp))
    go_enter Tryz.func18, Tryz.ntmps18
    go_wp2_with (first
      | ((with_reducible show wpList _ _ _ (⟨some 1, _, _, _, _, _⟩ :: _) _ _); refine wpList_box _ rfl 34 (.tmp 0) rfl (ppC p A1 n1 c1 A2 n2 c2) rfl ?_; intro w1 y1 y2 y3; have HB1 := Lib.hid y2; have q0 := y1.get (j := 0) rfl; have q1 := y1.get (j := 1) rfl; have q2 := y1.get (j := 2) rfl; have q3 := y1.get (j := 3) rfl; have q4 := y1.get (j := 4) rfl; have HP1 := Lib.hid y1; clear y1 y2 y3)
      | (go_at_call 31; refine (contains_any A1 n1 c1 p.ws p.dev w1 (H1.out.kept stay_int HB1.out)).mono ?_; rintro e w2 ⟨rfl, hw⟩; rw [hw, f4]; clear hw w2)
      | fail)
    go_ret
    exact ⟨ret_bool HF.out.symm, HB1.out⟩
  have f6 : decide (n2 < 1) = false := decide_eq_false (by omega)
  have f6' : decide (n2 = 0) = false := decide_eq_false (by omega)
  by_cases h7 : n2 ≤ 1024
  rotate_left
  · have E : Hid (decide (p.ss.length ≤ 1024) = false) := Lib.hid (decide_eq_false (by rw [HL2.out]; exact h7))
    have f7 : decide (1024 < n2) = true := decide_eq_true (by omega)
    clear h1 h2 h3
    have HF : Hid (validB p = false) := Lib.hid (valid_head (by unfold headB; rw [E.out]; simp))
    go_enter Tryz.func18, Tryz.ntmps18
    go_wp2_with (first
      | ((with_reducible show wpList _ _ _ (⟨some 1, _, _, _, _, _⟩ :: _) _ _); refine wpList_box _ rfl 34 (.tmp 0) rfl (ppC p A1 n1 c1 A2 n2 c2) rfl ?_; intro w1 y1 y2 y3; have HB1 := Lib.hid y2; have q0 := y1.get (j := 0) rfl; have q1 := y1.get (j := 1) rfl; have q2 := y1.get (j := 2) rfl; have q3 := y1.get (j := 3) rfl; have q4 := y1.get (j := 4) rfl; have HP1 := Lib.hid y1; clear y1 y2 y3)
      | (go_at_call 31; refine (contains_any A1 n1 c1 p.ws p.dev w1 (H1.out.kept stay_int HB1.out)).mono ?_; rintro e w2 ⟨rfl, hw⟩; rw [hw, f4]; clear hw w2)
      | fail)
    go_ret
    exact ⟨ret_bool HF.out.symm, HB1.out⟩
  have f7 : decide (1024 < n2) = false := decide_eq_false (by omega)
  have HH : Hid (headB p = true) := Lib.hid (by
    unfold headB
    rw [decide_eq_true h1, decide_eq_true h2, decide_eq_true h3, f4, HL1.out, HL2.out, decide_eq_true h5, decide_eq_true h6, decide_eq_true h7]; rfl)
  clear h1 h2 h3
  go_enter Tryz.func18, Tryz.ntmps18
  go_wp2_with (first
    | ((with_reducible show wpList _ _ _ (⟨some 1, _, _, _, _, _⟩ :: _) _ _); refine wpList_box _ rfl 34 (.tmp 0) rfl (ppC p A1 n1 c1 A2 n2 c2) rfl ?_; intro w1 y1 y2 y3; have HB1 := Lib.hid y2; have q0 := y1.get (j := 0) rfl; have q1 := y1.get (j := 1) rfl; have q2 := y1.get (j := 2) rfl; have q3 := y1.get (j := 3) rfl; have q4 := y1.get (j := 4) rfl; have HP1 := Lib.hid y1; clear y1 y2 y3)
    | (go_at_call 31; refine (contains_any A1 n1 c1 p.ws p.dev w1 (H1.out.kept stay_int HB1.out)).mono ?_; rintro e w2 ⟨rfl, hw⟩; rw [hw, f4]; clear hw w2)
    | fail)
  go_loopw [47] (fun iv wr => w1 = wr ∧ ∃ k : Nat, k ≤ n1 ∧ iv = .int .i64 (k : Int) ∧ Hid (∀ j, j < k → wAt p.ws j = true)) (fun iv _ => n1 - (intOf iv).toNat)
  case atStart => exact ⟨rfl, 0, by omega, rfl, Lib.hid (fun j hj => absurd hj (by omega))⟩
  case round =>
    obtain ⟨rfl, k, hk, rfl, hall⟩ := hrel
    by_cases hlt : k < n1
    · obtain ⟨x, g, o, hx, rfl, q5⟩ := H1.out.int_at HB1.out hlt
      have HX := Lib.hid (gI_some hx)
      have HKL : Hid (k < p.ws.length) := Lib.hid (by rw [HL1.out]; exact hlt)
      clear hx
      by_cases g1 : 0 ≤ x
      rotate_left
      · have e1 : decide (x < 0) = true := decide_eq_true (by omega)
        have HR : Hid (validB p = false) := Lib.hid (by rw [validB, ws_false HKL.out (by rw [wAt, HX.out, decide_eq_false g1]; rfl)]; simp)
        clear g1
        go_wp2_with fail
        go_ret
        exact ⟨ret_bool HR.out.symm, HB1.out⟩
      have e1 : decide (x < 0) = false := decide_eq_false (by omega)
      by_cases g2 : x < 12
      rotate_left
      · have e2 : decide (12 ≤ x) = true := decide_eq_true (by omega)
        have HR : Hid (validB p = false) := Lib.hid (by rw [validB, ws_false HKL.out (by rw [wAt, HX.out, decide_eq_false g2]; simp)]; simp)
        clear g1 g2
        go_wp2_with fail
        go_ret
        exact ⟨ret_bool HR.out.symm, HB1.out⟩
      have e2 : decide (12 ≤ x) = false := decide_eq_false (by omega)
      rcases Nat.eq_zero_or_pos k with rfl | hp
      · have HR : Hid (wAt p.ws 0 = true) := Lib.hid (by rw [wAt, HX.out, decide_eq_true g1, decide_eq_true g2]; rfl)
        clear g1 g2
        simp only [Nat.add_zero] at q5
        go_wp2_with fail
        go_roundw
        case rel => exact ⟨trivial, 1, by omega, rfl, Lib.hid (fun j hj => by
          obtain rfl : j = 0 := by omega
          exact HR.out)⟩
        case measure => simp [intOf]; omega
      · obtain ⟨j, hj⟩ : ∃ j, j = k - 1 := ⟨_, rfl⟩
        obtain ⟨y, g', o', hy, e', q6⟩ := H1.out.int_at HB1.out (show j < n1 by omega)
        cases e'
        have HY : Hid (gI p.ws (k - 1) = y) := Lib.hid (by rw [← hj]; exact gI_some hy)
        have hj1 : (k : Int) - 1 = (j : Int) := by omega
        have hkn : decide (0 < k) = true := decide_eq_true (by omega)
        have hk0 : ¬ k = 0 := by omega
        by_cases g3 : y < x
        · have e3 : decide (x ≤ y) = false := decide_eq_false (by omega)
          have HR : Hid (wAt p.ws k = true) := Lib.hid (by rw [wAt, HX.out, HY.out, decide_eq_true g1, decide_eq_true g2, decide_eq_true g3]; simp)
          clear g1 g2 g3 hy hj hk0
          go_wp2_with fail
          go_roundw
          case rel => exact ⟨trivial, k + 1, by omega, by go_num, Lib.hid (fun i hi => by
            rcases Nat.lt_succ_iff_lt_or_eq.1 hi with h | rfl
            · exact hall.out i h
            · exact HR.out)⟩
          case measure => simp [intOf]; omega
        · have e3 : decide (x ≤ y) = true := decide_eq_true (by omega)
          have HR : Hid (validB p = false) := Lib.hid (by rw [validB, ws_false HKL.out (by rw [wAt, HX.out, HY.out, decide_eq_false g3]; simp [hk0])]; simp)
          clear g1 g2 g3 hy hj hk0
          go_wp2_with fail
          go_ret
          exact ⟨ret_bool HR.out.symm, HB1.out⟩
    · obtain rfl : k = n1 := by omega
      have HW : Hid (wsB p.ws = true) := Lib.hid (ws_true (by rw [HL1.out]; exact hall.out))
      go_wp2_with fail
      go_loopw [76] (fun iv wr => w1 = wr ∧ ∃ k : Nat, k ≤ n2 ∧ iv = .int .i64 (k : Int) ∧ Hid (∀ j, j < k → ascAt p.ss j = true)) (fun iv _ => n2 - (intOf iv).toNat)
      case atStart => exact ⟨rfl, 0, by omega, rfl, Lib.hid (fun j hj => absurd hj (by omega))⟩
      case round =>
        obtain ⟨rfl, i, hi, rfl, hal2⟩ := hrel
        by_cases hlt : i < n2
        · obtain ⟨x, g, o, hx, rfl, q5⟩ := H2.out.str_at HB1.out hlt
          have HX := Lib.hid (gR_some hx)
          have HKL : Hid (i < p.ss.length) := Lib.hid (by rw [HL2.out]; exact hlt)
          clear hx
          by_cases hs : x.length = 32
          rotate_left
          · have es : (((strB x).size : Int) != 32) = true := by rw [strB_size, bne_iff_ne]; omega
            have HR : Hid (validB p = false) := Lib.hid (by rw [validB, asc_false HKL.out (by rw [ascAt, HX.out, decide_eq_false hs]; rfl)]; simp)
            clear hs
            go_wp2_with fail
            go_ret
            exact ⟨ret_bool HR.out.symm, HB1.out⟩
          have es : (((strB x).size : Int) != 32) = false := by rw [strB_size, hs]; rfl
          rcases Nat.eq_zero_or_pos i with rfl | hp
          · have HR : Hid (ascAt p.ss 0 = true) := Lib.hid (by rw [ascAt, HX.out, decide_eq_true hs]; rfl)
            clear hs
            simp only [Nat.add_zero] at q5
            go_wp2_with fail
            go_roundw
            case rel => exact ⟨trivial, 1, by omega, rfl, Lib.hid (fun j hj => by
              obtain rfl : j = 0 := by omega
              exact HR.out)⟩
            case measure => simp [intOf]; omega
          · obtain ⟨j, hj⟩ : ∃ j, j = i - 1 := ⟨_, rfl⟩
            obtain ⟨y, g', o', hy, e', q6⟩ := H2.out.str_at HB1.out (show j < n2 by omega)
            cases e'
            have HY : Hid (gR p.ss (i - 1) = y) := Lib.hid (by rw [← hj]; exact gR_some hy)
            have hj1 : (i : Int) - 1 = (j : Int) := by omega
            have hkn : decide (0 < i) = true := decide_eq_true (by omega)
            have hk0 : ¬ i = 0 := by omega
            cases hb : Op.bytesLess y x with
            | true =>
              have el : Op.bytesLess (strB y).toList (strB x).toList = true := by rw [strB_list, strB_list]; exact hb
              have HR : Hid (ascAt p.ss i = true) := Lib.hid (by rw [ascAt, HX.out, HY.out, decide_eq_true hs, hb]; simp)
              clear hs hy hb hj hk0
              go_wp2_with fail
              first | (rw [geq_text el]; go_simp; go_wp2_with fail) | skip
              go_roundw
              case rel => exact ⟨trivial, i + 1, by omega, by go_num, Lib.hid (fun j hj => by
                rcases Nat.lt_succ_iff_lt_or_eq.1 hj with h | rfl
                · exact hal2.out j h
                · exact HR.out)⟩
              case measure => simp [intOf]; omega
            | false =>
              have el : Op.bytesLess (strB y).toList (strB x).toList = false := by rw [strB_list, strB_list]; exact hb
              have HR : Hid (validB p = false) := Lib.hid (by rw [validB, asc_false HKL.out (by rw [ascAt, HX.out, HY.out, hb]; simp [hk0])]; simp)
              clear hs hy hb hj hk0
              go_wp2_with fail
              first | (rw [geq_text el]; go_simp; go_wp2_with fail) | skip
              go_ret
              exact ⟨ret_bool HR.out.symm, HB1.out⟩
        · obtain rfl : i = n2 := by omega
          have HR : Hid (validB p = true) := Lib.hid (by rw [validB, HH.out, HW.out, asc_true (by rw [HL2.out]; exact hal2.out)]; rfl)
          go_wp2_with fail
          go_ret
          exact ⟨ret_bool HR.out.symm, HB1.out⟩
end Go.Proofs.YtgoefpbicohkfaaGreatDoor
/- epoch.EncodeProposal, replyBody, EncodeReply, isReply. -/
namespace Go.Proofs.YtgoefpbicohkfaaGreatDoor
open Go Go.RowKit Gf Sha

/-- Numbers, one behind the other. -/
def uvs (m : List Int) : List UInt8 := m.flatMap fun z => uv z.toNat
def bl1 (p : Pp) (k : Nat) : List UInt8 := (uv p.vault.toNat ++ uv p.ws.length) ++ uvs (p.ws.take k)
def bl2 (p : Pp) (k : Nat) : List UInt8 := (bl1 p p.ws.length ++ uv p.ss.length) ++ (p.ss.take k).flatten
/-- A proposal's body. -/
def bodyL (p : Pp) : List UInt8 := bl2 p p.ss.length
/-- A reply's body. -/
def rbL (p : Pp) : List UInt8 := uv p.dev.toNat ++ uv p.seq.toNat
theorem uvs_len : ∀ m : List Int, (uvs m).length ≤ 11 * m.length
  | [] => by simp [uvs]
  | z :: m => by
    have h1 := uvs_len m
    have h2 := (uv_length z.toNat).2
    rw [show uvs (z :: m) = uv z.toNat ++ uvs m from rfl, List.length_append, List.length_cons]
    omega
theorem bl1_len (p : Pp) (k : Nat) : (bl1 p k).length ≤ 22 + 11 * p.ws.length := by
  have h1 := uvs_len (p.ws.take k)
  have h2 := (uv_length p.vault.toNat).2
  have h3 := (uv_length p.ws.length).2
  rw [bl1, List.length_append, List.length_append]
  rw [List.length_take] at h1
  have := Nat.min_le_right k p.ws.length
  have := Nat.mul_le_mul_left 11 this
  omega
theorem flat32 : ∀ m : List (List UInt8), (∀ x ∈ m, x.length = 32) → m.flatten.length = 32 * m.length
  | [], _ => rfl
  | x :: m, h => by
    rw [List.flatten_cons, List.length_append, h x (by simp), flat32 m (fun y hy => h y (by simp [hy])), List.length_cons]; omega
theorem bl1_step {p : Pp} {k : Nat} {x : Int} (h : p.ws[k]? = some x) : bl1 p k ++ uv x.toNat = bl1 p (k + 1) := by
  rw [bl1, bl1, take_next h, uvs, uvs, List.flatMap_append, List.append_assoc (uv p.vault.toNat ++ uv p.ws.length)]; simp
theorem bl2_step {p : Pp} {k : Nat} {x : List UInt8} (h : p.ss[k]? = some x) : bl2 p k ++ x = bl2 p (k + 1) := by
  rw [bl2, bl2, take_next h, List.flatten_append, List.append_assoc (bl1 p p.ws.length ++ uv p.ss.length)]; simp
theorem mem_of {α : Type} {m : List α} {k : Nat} {x : α} (h : m[k]? = some x) : x ∈ m := List.mem_iff_getElem?.2 ⟨k, h⟩
theorem asc_32 {m : List (List UInt8)} (h : ascB m = true) {x : List UInt8} (hx : x ∈ m) : x.length = 32 := by
  obtain ⟨k, hk⟩ := List.mem_iff_getElem?.1 hx
  have h1 := List.all_eq_true.1 h k (List.mem_range.2 (List.getElem?_eq_some_iff.1 hk).1)
  rw [ascAt, gR_some hk, Bool.and_eq_true, decide_eq_true_eq] at h1
  exact h1.1
theorem ws_12 {m : List Int} (h : wsB m = true) {x : Int} (hx : x ∈ m) : 0 ≤ x ∧ x < 12 := by
  obtain ⟨k, hk⟩ := List.mem_iff_getElem?.1 hx
  have h1 := List.all_eq_true.1 h k (List.mem_range.2 (List.getElem?_eq_some_iff.1 hk).1)
  rw [wAt, gI_some hk, Bool.and_eq_true, Bool.and_eq_true, decide_eq_true_eq, decide_eq_true_eq] at h1
  exact ⟨h1.1, h1.2.1⟩
structure ValidP (p : Pp) : Prop where
  seq : 1 ≤ p.seq
  v0 : 0 ≤ p.vault
  v1 : p.vault ≤ 11
  dev : p.dev ∈ p.ws
  w3 : p.ws.length ≤ 3
  s1 : 1 ≤ p.ss.length
  s2 : p.ss.length ≤ 1024
  ws : ∀ x ∈ p.ws, 0 ≤ x ∧ x < 12
  ss : ∀ x ∈ p.ss, x.length = 32
  asc : ascB p.ss = true
  wsa : wsB p.ws = true
theorem valid_p {p : Pp} (h : validB p = true) : ValidP p := by
  unfold validB headB at h
  simp only [Bool.and_eq_true, decide_eq_true_eq] at h
  obtain ⟨⟨h1, h2, h3, h4, h5, h6, h7⟩, h8, h9⟩ := h
  exact ⟨h1, h2, h3, List.contains_iff_mem.1 h4, h5, h6, h7, fun x hx => ws_12 h8 hx, fun x hx => asc_32 h9 hx, h9, h8⟩
theorem bl2_len {p : Pp} (h : validB p = true) (k : Nat) : (bl2 p k).length ≤ 33000 := by
  have h0 := valid_p h
  have h1 := bl1_len p p.ws.length
  have h2 := (uv_length p.ss.length).2
  have h3 := flat32 (p.ss.take k) (fun x hx => h0.ss x (List.mem_of_mem_take hx))
  rw [List.length_take] at h3
  have h4 := Nat.min_le_right k p.ss.length
  have h5 := h0.s2
  have h6 := h0.w3
  rw [bl2, List.length_append, List.length_append]
  omega
theorem wrapN {z : Int} {V : Nat} (h : z = (V : Int)) (h1 : V < 9223372036854775808) : IntKind.u64.wrap z = (V : Int) := by
  rw [h]; show (V : Int) % 18446744073709551616 = _; omega
section
set_option maxRecDepth 100000
set_option maxHeartbeats 4000000
theorem encp_bad (cs : List Value) (p : Pp) (w : World) (h : rPp w cs p) (hv : validB p = false) :
    Calls Tryz.prog 8 #[.agg cs.toArray] w fun e w' => e = .returned (.tuple #[.slice none 0 0, .int .i64 1]) ∧ Below w.heap.size w w' := by
  have H := Lib.hid h
  obtain ⟨A1, n1, c1, A2, n2, c2, rfl, _⟩ := h
  go_enter Tryz.func8, Tryz.ntmps8
  go_wp2_with (first
    | ((with_reducible show wpList _ _ _ (⟨some 1, _, _, _, _, _⟩ :: _) _ _); refine wpList_box _ rfl 34 (.tmp 0) rfl (ppC p A1 n1 c1 A2 n2 c2) rfl ?_; intro w1 y1 y2 y3; have HB1 := Lib.hid y2; have HP1 := Lib.hid y1; clear y1 y2 y3)
    | ((with_reducible show wpList _ _ _ (⟨some 9, _, _, _, _, _⟩ :: _) _ _); refine wpList_loadv _ rfl 34 (.tmp 1) rfl 5 (by kernel_rfl) w.heap.size 0 _ rfl (BL.all HP1.out) rfl ?_)
    | (go_at_call 18; refine (valid_any _ p w1 (stay_pp _ _ _ _ H.out HB1.out)).mono ?_; rintro e w2 ⟨rfl, b2⟩; rw [hv]; have HB2 := Lib.hid (below_then HB1.out b2); clear b2))
  go_ret2
  exact ⟨rfl, HB2.out⟩
theorem encp_ok (cs : List Value) (p : Pp) (w : World) (h : rPp w cs p) (hv : validB p = true) :
    Calls Tryz.prog 8 #[.agg cs.toArray] w fun e w' => ∃ A n c, e = .returned (.tuple #[.slice A n c, .int .i64 0]) ∧ BS w' A n c (bodyL p) ∧ Below w.heap.size w w' := by
  have H := Lib.hid h
  have HV := Lib.hid (valid_p hv)
  obtain ⟨A1, n1, c1, A2, n2, c2, rfl, hl1, hl2, _⟩ := h
  have H1 := Lib.hid hl1
  have H2 := Lib.hid hl2
  have HL1 := Lib.hid hl1.1
  have HL2 := Lib.hid hl2.1
  have HN1 : Hid (n1 ≤ 3) := Lib.hid (by have := HV.out.w3; rw [hl1.1] at this; exact this)
  have HN2 : Hid (n2 ≤ 1024) := Lib.hid (by have := HV.out.s2; rw [hl2.1] at this; exact this)
  have HVH := Lib.hid hv
  obtain ⟨V, hV⟩ : ∃ V, V = p.vault.toNat := ⟨_, rfl⟩
  have HVV : Hid (p.vault = (V : Int)) := Lib.hid (by have := HV.out.v0; omega)
  have HVB : Hid (V ≤ 11) := Lib.hid (by have := HV.out.v1; omega)
  have HVE := Lib.hid hV
  have fv : IntKind.u64.wrap p.vault = (V : Int) := wrapN HVV.out (by have := HVB.out; omega)
  have HU1 := Lib.hid (uv_length V).2
  have HU2 := Lib.hid (uv_length n1).2
  have hn1 := HN1.out
  have hn2 := HN2.out
  clear hl1 hl2 hV
  go_enter Tryz.func8, Tryz.ntmps8
  go_wp2_with (first
    | ((with_reducible show wpList _ _ _ (⟨some 1, _, _, _, _, _⟩ :: _) _ _); refine wpList_box _ rfl 34 (.tmp 0) rfl (ppC p A1 n1 c1 A2 n2 c2) rfl ?_; intro w1 y1 y2 y3; have HB1 := Lib.hid y2; have HP1 := Lib.hid y1; clear y1 y2 y3)
    | ((with_reducible show wpList _ _ _ (⟨some 9, _, _, _, _, _⟩ :: _) _ _); refine wpList_loadv _ rfl 34 (.tmp 1) rfl 5 (by kernel_rfl) w.heap.size 0 _ rfl (BL.all HP1.out) rfl ?_)
    | (go_at_call 18; refine (valid_any _ p w1 (stay_pp _ _ _ _ H.out HB1.out)).mono ?_; rintro e w2 ⟨rfl, b2⟩; rw [hv]; have HB2 := Lib.hid (below_then HB1.out b2); have HP2 := Lib.hid (HP1.out.kept b2); clear b2)
    | (go_at_call 19; refine (newWriter_any w2).mono ?_; rintro e w3 ⟨rfl, b1, b2⟩; have HW3 := Lib.hid b1; have HB3 := Lib.hid (below_then HB2.out b2); have HP3 := Lib.hid (HP2.out.kept b2); have q2 := (HP2.out.kept b2).get (j := 2) rfl; clear b1 b2)
    | (go_at_call 20; refine (wuint_any w3 w2.heap.size V [] HW3.out (by decide) (by have := HVB.out; omega)).mono ?_; rintro e w4 ⟨rfl, b1, b2⟩; rw [List.nil_append] at b1; have HW4 := Lib.hid b1; have HB4 : Hid (Below w.heap.size w w4) := Lib.hid (HB3.out.trans (b2.mono HB2.out.size)); have HP4 := Lib.hid (HP3.out.belowB HP2.out.lt b2); have q3 := (HP3.out.belowB HP2.out.lt b2).get (j := 3) rfl; clear b1 b2)
    | (go_at_call 21; refine (wcount_any w4 w2.heap.size n1 _ HW4.out (by have := HU1.out; omega) (by have := HN1.out; omega)).mono ?_; rintro e w5 ⟨rfl, b1, b2⟩; have HW5 := Lib.hid b1; have HB5 : Hid (Below w.heap.size w w5) := Lib.hid (HB4.out.trans (b2.mono HB2.out.size)); have HP5 := Lib.hid (HP4.out.belowB HP2.out.lt b2); have q4 := (HP4.out.belowB HP2.out.lt b2).get (j := 3) rfl; clear b1 b2))
  clear q2 q3 q4
  go_loopw [26] (fun iv wr => ∃ k : Nat, k ≤ n1 ∧ iv = .int .i64 (k : Int) ∧ Hid (WrOk wr w2.heap.size (bl1 p k)) ∧ Hid (BL wr w.heap.size 34 (ppC p A1 n1 c1 A2 n2 c2)) ∧ Hid (Below w.heap.size w wr)) (fun iv _ => n1 - (intOf iv).toNat)
  case atStart => exact ⟨0, by omega, rfl, Lib.hid (by
    have h9 := HW5.out
    have e9 : uv V ++ uv n1 = bl1 p 0 := by rw [bl1, HL1.out, HVE.out]; simp [uvs]
    rwa [e9] at h9), HP5, HB5⟩
  case round =>
    obtain ⟨k, hk, rfl, hw, hp, hb⟩ := hrel
    obtain ⟨wx, hwx⟩ : ∃ x, x = wr := ⟨_, rfl⟩
    rw [← hwx] at hw hp hb ⊢
    clear hwx
    by_cases hlt : k < n1
    · obtain ⟨x, g, o, hx, rfl, q5⟩ := H1.out.int_at hb.out hlt
      obtain ⟨X, hX⟩ : ∃ X, X = x.toNat := ⟨_, rfl⟩
      have hx12 := HV.out.ws x (mem_of hx)
      have fx : IntKind.u64.wrap x = (X : Int) := wrapN (by omega) (by omega)
      have HXB : Hid (X < 12) := Lib.hid (by omega)
      have HST : Hid (bl1 p k ++ uv X = bl1 p (k + 1)) := Lib.hid (by rw [hX]; exact bl1_step hx)
      clear hx hX hx12
      go_wp2_with (first
        | (go_at_call 20; refine (wuint_any wx w2.heap.size X _ hw.out (by have := bl1_len p k; have := HL1.out; have := HN1.out; omega) (by have := HXB.out; omega)).mono ?_; rintro e w6 ⟨rfl, b1, b2⟩; rw [HST.out] at b1; have HW6 := Lib.hid b1; have HB6 : Hid (Below w.heap.size w w6) := Lib.hid (hb.out.trans (b2.mono HB2.out.size)); have HP6 := Lib.hid (hp.out.belowB HP2.out.lt b2); clear b1 b2))
      go_roundw
      case rel => exact ⟨k + 1, by omega, by go_num, HW6, HP6, HB6⟩
      case measure => simp [intOf]; omega
    · obtain rfl : k = n1 := by omega
      have q4 := hp.out.get (j := 4) rfl
      have HWX : Hid (WrOk wx w2.heap.size (bl1 p p.ws.length)) := Lib.hid (by have h9 := hw.out; rwa [← HL1.out] at h9)
      go_wp2_with (first
        | (go_at_call 21; refine (wcount_any wx w2.heap.size n2 _ HWX.out (by have := bl1_len p p.ws.length; have := HL1.out; have := HN1.out; omega) (by have := HN2.out; omega)).mono ?_; rintro e w6 ⟨rfl, b1, b2⟩; have HW6 := Lib.hid b1; have HB6 : Hid (Below w.heap.size w w6) := Lib.hid (hb.out.trans (b2.mono HB2.out.size)); have q5 := (hp.out.belowB HP2.out.lt b2).get (j := 4) rfl; clear b1 b2))
      clear q4 q5
      go_loopw [43] (fun iv wr => ∃ k : Nat, k ≤ n2 ∧ iv = .int .i64 (k : Int) ∧ Hid (WrOk wr w2.heap.size (bl2 p k)) ∧ Hid (Below w.heap.size w wr)) (fun iv _ => n2 - (intOf iv).toNat)
      case atStart => exact ⟨0, by omega, rfl, Lib.hid (by
        have h9 := HW6.out
        have e9 : bl1 p p.ws.length ++ uv n2 = bl2 p 0 := by rw [bl2, HL2.out]; simp
        rwa [e9] at h9), HB6⟩
      case round =>
        obtain ⟨i, hi, rfl, hw', hb'⟩ := hrel
        obtain ⟨wy, hwy⟩ : ∃ x, x = wr := ⟨_, rfl⟩
        rw [← hwy] at hw' hb' ⊢
        clear hwy
        by_cases hlt : i < n2
        · obtain ⟨x, g, o, hx, rfl, q5⟩ := H2.out.str_at hb'.out hlt
          have HX32 := Lib.hid (HV.out.ss x (mem_of hx))
          have HST : Hid (bl2 p i ++ x = bl2 p (i + 1)) := Lib.hid (bl2_step hx)
          clear hx
          go_wp2_with (first
            | (go_at_call 22; refine (wsum_any wy w2.heap.size _ x hw'.out (by have := bl2_len HVH.out i; omega) HX32.out).mono ?_; rintro e w7 ⟨rfl, b1, b2⟩; rw [HST.out] at b1; have HW7 := Lib.hid b1; have HB7 : Hid (Below w.heap.size w w7) := Lib.hid (hb'.out.trans (b2.mono HB2.out.size)); clear b1 b2))
          go_roundw
          case rel => exact ⟨i + 1, by omega, by go_num, HW7, HB7⟩
          case measure => simp [intOf]; omega
        · obtain rfl : i = n2 := by omega
          have HWX : Hid (WrOk wy w2.heap.size (bodyL p)) := Lib.hid (by have h9 := hw'.out; rwa [← HL2.out] at h9)
          go_wp2_with (first
            | (go_at_call 23; refine (wdone_any wy w2.heap.size _ HWX.out (by have := bl2_len HVH.out p.ss.length; unfold bodyL; omega)).mono ?_; rintro e w7 ⟨A, n, c, rfl, b1, b2⟩; have HS7 := Lib.hid b1; have HB7 : Hid (Below w.heap.size w w7) := Lib.hid (below_thenB hb'.out hb'.out.size b2); clear b1 b2))
          go_ret2
          exact ⟨A, n, c, rfl, HS7.out, HB7.out⟩
end
end Go.Proofs.YtgoefpbicohkfaaGreatDoor
