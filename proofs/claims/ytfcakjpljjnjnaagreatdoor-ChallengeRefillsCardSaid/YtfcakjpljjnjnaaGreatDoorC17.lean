/- Several texts in one: Rvk, Sp, So, Sp2. -/
import Derived.Test.YtfcakjpljjnjnaaGreatDoorC16
import Derived.Test.YtfcakjpljjnjnaaGreatDoorC15
import Derived.Test.YtfcakjpljjnjnaaGreatDoorC2
import Derived.Test.YtfcakjpljjnjnaaGreatDoorC9
import Derived.Test.YtfcakjpljjnjnaaGreatDoorC6
import Derived.Test.YtfcakjpljjnjnaaGreatDoorShelf
import Derived.Sort.OwnSortedInts
/- Contracts of ref11.ValidKeys and of ref44's ValidPiece, data, numbers. -/
namespace Go.Proofs.YtfcakjpljjnjnaaGreatDoor
open Go Go.RowKit Gf Sha

theorem okK_out {K : Ky} {l : List UInt8} (hl : l ∈ K.list) (h : ¬ l.length = 32) : okK K = false := by
 rw [Bool.eq_false_iff]
 intro e
 exact h (okK_nm e l hl)
set_option maxRecDepth 100000 in
set_option maxHeartbeats 1000000 in
theorem rkeys_any (K : Ky) (w : World) :
  Calls Tryz.prog 25 #[K.val] w fun e w' => e = .returned (.bool (okK K)) ∧ Below w.heap.size w w' := by
 by_cases h0 : K.nm.length = 32
 case neg =>
  have HE : Hid (okK K = false) := Lib.hid (okK_out (l := K.nm) (by simp [Ky.list]) h0)
  have e0 : (((strB K.nm).size : Int) == 32) = false := by rw [strB_size, beq_eq_false_iff_ne]; omega
  clear h0
  go_enter Tryz.func25, Tryz.ntmps25
  go_wp2_with ((with_reducible show OpW 1); refine wpList_box _ rfl 23 (.tmp 0) rfl K.cells rfl ?_; intro w1 a1 a2 a3; have q0 := BL.get a1 (j := 0) rfl; have q1 := BL.get a1 (j := 1) rfl; have q2 := BL.get a1 (j := 2) rfl; have q3 := BL.get a1 (j := 3) rfl; have q4 := BL.get a1 (j := 4) rfl; have HB1 := Lib.hid a2; clear a1 a2 a3)
  go_ret
  exact ⟨ret_bool HE.out.symm, HB1.out⟩
 have e0 : (((strB K.nm).size : Int) == 32) = true := by rw [strB_size, beq_iff_eq]; omega
 by_cases h1 : K.st.length = 32
 case neg =>
  have HE : Hid (okK K = false) := Lib.hid (okK_out (l := K.st) (by simp [Ky.list]) h1)
  have e1 : (((strB K.st).size : Int) == 32) = false := by rw [strB_size, beq_eq_false_iff_ne]; omega
  clear h0 h1
  go_enter Tryz.func25, Tryz.ntmps25
  go_wp2_with ((with_reducible show OpW 1); refine wpList_box _ rfl 23 (.tmp 0) rfl K.cells rfl ?_; intro w1 a1 a2 a3; have q0 := BL.get a1 (j := 0) rfl; have q1 := BL.get a1 (j := 1) rfl; have q2 := BL.get a1 (j := 2) rfl; have q3 := BL.get a1 (j := 3) rfl; have q4 := BL.get a1 (j := 4) rfl; have HB1 := Lib.hid a2; clear a1 a2 a3)
  go_ret
  exact ⟨ret_bool HE.out.symm, HB1.out⟩
 have e1 : (((strB K.st).size : Int) == 32) = true := by rw [strB_size, beq_iff_eq]; omega
 by_cases h2 : K.ck.length = 32
 case neg =>
  have HE : Hid (okK K = false) := Lib.hid (okK_out (l := K.ck) (by simp [Ky.list]) h2)
  have e2 : (((strB K.ck).size : Int) == 32) = false := by rw [strB_size, beq_eq_false_iff_ne]; omega
  clear h0 h1 h2
  go_enter Tryz.func25, Tryz.ntmps25
  go_wp2_with ((with_reducible show OpW 1); refine wpList_box _ rfl 23 (.tmp 0) rfl K.cells rfl ?_; intro w1 a1 a2 a3; have q0 := BL.get a1 (j := 0) rfl; have q1 := BL.get a1 (j := 1) rfl; have q2 := BL.get a1 (j := 2) rfl; have q3 := BL.get a1 (j := 3) rfl; have q4 := BL.get a1 (j := 4) rfl; have HB1 := Lib.hid a2; clear a1 a2 a3)
  go_ret
  exact ⟨ret_bool HE.out.symm, HB1.out⟩
 have e2 : (((strB K.ck).size : Int) == 32) = true := by rw [strB_size, beq_iff_eq]; omega
 by_cases h3 : K.ix.length = 32
 case neg =>
  have HE : Hid (okK K = false) := Lib.hid (okK_out (l := K.ix) (by simp [Ky.list]) h3)
  have e3 : (((strB K.ix).size : Int) == 32) = false := by rw [strB_size, beq_eq_false_iff_ne]; omega
  clear h0 h1 h2 h3
  go_enter Tryz.func25, Tryz.ntmps25
  go_wp2_with ((with_reducible show OpW 1); refine wpList_box _ rfl 23 (.tmp 0) rfl K.cells rfl ?_; intro w1 a1 a2 a3; have q0 := BL.get a1 (j := 0) rfl; have q1 := BL.get a1 (j := 1) rfl; have q2 := BL.get a1 (j := 2) rfl; have q3 := BL.get a1 (j := 3) rfl; have q4 := BL.get a1 (j := 4) rfl; have HB1 := Lib.hid a2; clear a1 a2 a3)
  go_ret
  exact ⟨ret_bool HE.out.symm, HB1.out⟩
 have e3 : (((strB K.ix).size : Int) == 32) = true := by rw [strB_size, beq_iff_eq]; omega
 by_cases h4 : K.tk.length = 32
 case neg =>
  have HE : Hid (okK K = false) := Lib.hid (okK_out (l := K.tk) (by simp [Ky.list]) h4)
  have e4 : (((strB K.tk).size : Int) == 32) = false := by rw [strB_size, beq_eq_false_iff_ne]; omega
  clear h0 h1 h2 h3 h4
  go_enter Tryz.func25, Tryz.ntmps25
  go_wp2_with ((with_reducible show OpW 1); refine wpList_box _ rfl 23 (.tmp 0) rfl K.cells rfl ?_; intro w1 a1 a2 a3; have q0 := BL.get a1 (j := 0) rfl; have q1 := BL.get a1 (j := 1) rfl; have q2 := BL.get a1 (j := 2) rfl; have q3 := BL.get a1 (j := 3) rfl; have q4 := BL.get a1 (j := 4) rfl; have HB1 := Lib.hid a2; clear a1 a2 a3)
  go_ret
  exact ⟨ret_bool HE.out.symm, HB1.out⟩
 have e4 : (((strB K.tk).size : Int) == 32) = true := by rw [strB_size, beq_iff_eq]; omega
 have HE : Hid (okK K = true) := Lib.hid (by
  unfold okK
  rw [List.all_eq_true]
  intro l hl
  simp only [Ky.list, List.mem_cons, List.not_mem_nil, or_false] at hl
  rcases hl with rfl | rfl | rfl | rfl | rfl <;> simp [h0, h1, h2, h3, h4])
 clear h0 h1 h2 h3 h4
 go_enter Tryz.func25, Tryz.ntmps25
 go_wp2_with ((with_reducible show OpW 1); refine wpList_box _ rfl 23 (.tmp 0) rfl K.cells rfl ?_; intro w1 a1 a2 a3; have q0 := BL.get a1 (j := 0) rfl; have q1 := BL.get a1 (j := 1) rfl; have q2 := BL.get a1 (j := 2) rfl; have q3 := BL.get a1 (j := 3) rfl; have q4 := BL.get a1 (j := 4) rfl; have HB1 := Lib.hid a2; clear a1 a2 a3)
 go_ret
 exact ⟨ret_bool HE.out.symm, HB1.out⟩

set_option maxRecDepth 100000 in
set_option maxHeartbeats 1000000 in
theorem rpiece_any (s : List UInt8) (i : Int) (w : World) :
  Calls Tryz.prog 53 #[.agg #[.string (strB s), .int .i64 i]] w fun e w' => e = .returned (.bool (idB s i)) ∧ Below w.heap.size w w' := by
 by_cases h : s.length = 32
 ·
  have e0 : (((strB s).size : Int) == 32) = true := by rw [strB_size, beq_iff_eq]; omega
  by_cases h1 : 0 ≤ i
  ·
   have e1 : decide (0 ≤ i) = true := decide_eq_true h1
   have HE : Hid (idB s i = decide (i < 16)) := Lib.hid (by rw [idB, decide_eq_true h, decide_eq_true h1]; rfl)
   clear h h1
   go_enter Tryz.func53, Tryz.ntmps53
   go_wp2_with ((with_reducible show OpW 1); refine wpList_box _ rfl 31 (.tmp 0) rfl [.string (strB s), .int .i64 i] rfl ?_; intro w1 a1 a2 a3; have q0 := BL.get a1 (j := 0) rfl; have q1 := BL.get a1 (j := 1) rfl; have HB1 := Lib.hid a2; clear a1 a2 a3)
   go_ret
   exact ⟨ret_bool HE.out.symm, HB1.out⟩
  ·
   have e1 : decide (0 ≤ i) = false := decide_eq_false h1
   have HE : Hid (idB s i = false) := Lib.hid (by rw [idB, decide_eq_false h1]; simp)
   clear h h1
   go_enter Tryz.func53, Tryz.ntmps53
   go_wp2_with ((with_reducible show OpW 1); refine wpList_box _ rfl 31 (.tmp 0) rfl [.string (strB s), .int .i64 i] rfl ?_; intro w1 a1 a2 a3; have q0 := BL.get a1 (j := 0) rfl; have q1 := BL.get a1 (j := 1) rfl; have HB1 := Lib.hid a2; clear a1 a2 a3)
   go_ret
   exact ⟨ret_bool HE.out.symm, HB1.out⟩
 ·
  have e0 : (((strB s).size : Int) == 32) = false := by rw [strB_size, beq_eq_false_iff_ne]; omega
  have HE : Hid (idB s i = false) := Lib.hid (by rw [idB, decide_eq_false h]; rfl)
  clear h
  go_enter Tryz.func53, Tryz.ntmps53
  go_wp2_with ((with_reducible show OpW 1); refine wpList_box _ rfl 31 (.tmp 0) rfl [.string (strB s), .int .i64 i] rfl ?_; intro w1 a1 a2 a3; have q0 := BL.get a1 (j := 0) rfl; have q1 := BL.get a1 (j := 1) rfl; have HB1 := Lib.hid a2; clear a1 a2 a3)
  go_ret
  exact ⟨ret_bool HE.out.symm, HB1.out⟩

set_option maxRecDepth 100000 in
theorem rdata_any (A : Option Addr) (n c : Nat) (w : World) :
  Calls Tryz.prog 54 #[.slice A n c] w fun e w' => e = .returned (.bool (dataB n)) ∧ w = w' := by
 by_cases h : 1 ≤ n
 ·
  have HE : Hid (dataB n = decide (n ≤ 65536)) := Lib.hid (by rw [dataB, decide_eq_true h, Bool.true_and])
  have e0 : decide ((1 : Int) ≤ (n : Int)) = true := decide_eq_true (by omega)
  clear h
  go_enter Tryz.func54, Tryz.ntmps54
  go_wp2_with fail
  go_ret
  exact ⟨ret_bool (by rw [HE.out, decide_eq_decide]; omega), rfl⟩
 ·
  have HE : Hid (dataB n = false) := Lib.hid (by rw [dataB, decide_eq_false h, Bool.false_and])
  have e0 : decide ((1 : Int) ≤ (n : Int)) = false := decide_eq_false (by omega)
  clear h
  go_enter Tryz.func54, Tryz.ntmps54
  go_wp2_with fail
  go_ret
  exact ⟨ret_bool HE.out.symm, rfl⟩

set_option maxRecDepth 100000 in
set_option maxHeartbeats 1000000 in
theorem rnums_any (f c : Int) (w : World) :
  Calls Tryz.prog 26 #[.int .i64 f, .int .i64 c] w fun e w' => e = .returned (.bool (rangeB f c)) ∧ w = w' := by
 have HR : Hid (rangeB f c = (decide (0 ≤ f) && (decide (f ≤ 1099511627776) && (decide (0 ≤ c) && (decide (c ≤ 256) && decide (f + c ≤ 1099511627776)))))) := Lib.hid rfl
 by_cases h0 : 0 ≤ f
 case neg =>
  have e0 : decide (0 ≤ f) = false := decide_eq_false h0
  have HE : Hid (rangeB f c = false) := Lib.hid (by rw [HR.out, e0]; simp)
  clear h0
  go_enter Tryz.func26, Tryz.ntmps26
  go_wp2_with fail
  go_ret
  exact ⟨ret_bool HE.out.symm, rfl⟩
 have e0 : decide (0 ≤ f) = true := decide_eq_true h0
 by_cases h1 : f ≤ 1099511627776
 case neg =>
  have e1 : decide (f ≤ 1099511627776) = false := decide_eq_false h1
  have HE : Hid (rangeB f c = false) := Lib.hid (by rw [HR.out, e1]; simp)
  clear h0 h1
  go_enter Tryz.func26, Tryz.ntmps26
  go_wp2_with fail
  go_ret
  exact ⟨ret_bool HE.out.symm, rfl⟩
 have e1 : decide (f ≤ 1099511627776) = true := decide_eq_true h1
 by_cases h2 : 0 ≤ c
 case neg =>
  have e2 : decide (0 ≤ c) = false := decide_eq_false h2
  have HE : Hid (rangeB f c = false) := Lib.hid (by rw [HR.out, e2]; simp)
  clear h0 h1 h2
  go_enter Tryz.func26, Tryz.ntmps26
  go_wp2_with fail
  go_ret
  exact ⟨ret_bool HE.out.symm, rfl⟩
 have e2 : decide (0 ≤ c) = true := decide_eq_true h2
 by_cases h3 : c ≤ 256
 case neg =>
  have e3 : decide (c ≤ 256) = false := decide_eq_false h3
  have HE : Hid (rangeB f c = false) := Lib.hid (by rw [HR.out, e3]; simp)
  clear h0 h1 h2 h3
  go_enter Tryz.func26, Tryz.ntmps26
  go_wp2_with fail
  go_ret
  exact ⟨ret_bool HE.out.symm, rfl⟩
 have e3 : decide (c ≤ 256) = true := decide_eq_true h3
 have HE : Hid (rangeB f c = decide (f + c ≤ 1099511627776)) := Lib.hid (by rw [HR.out, e0, e1, e2, e3]; rfl)
 have m1 : IntKind.i64.wrap (f + c) = f + c := by rw [IntWalk.i64_in _ (by omega)]
 clear h0 h1 h2 h3
 go_enter Tryz.func26, Tryz.ntmps26
 go_wp2_with fail
 go_ret
 exact ⟨ret_bool HE.out.symm, rfl⟩
end Go.Proofs.YtfcakjpljjnjnaaGreatDoor
/- The spots of a nonce: plain. -/
namespace Go.Proofs.YtfcakjpljjnjnaaGreatDoor
open Go Go.RowKit Gf Sha

/-- The number that the tag of i stands for. -/
def tgN (nonce : List UInt8) (i : Nat) : Nat := beN ((tagL nonce ([115, 112, 111, 116] ++ uv i)).take 8)
/-- The spots that were selected first, j of them, the first number being st. -/
def spK (nonce : List UInt8) (st : Nat) : Nat → List Nat
 | 0 => []
 | j + 1 => let l := spK nonce st j
  let t := tgN nonce (st + j) % (st + j + 1)
  l ++ [if l.contains t then st + j else t]
theorem spK_length (nonce : List UInt8) (st j : Nat) : (spK nonce st j).length = j := by
 induction j with
 | zero => rfl
 | succ j ih => simp [spK, ih]
theorem spK_lt (nonce : List UInt8) (st j : Nat) : ∀ x ∈ spK nonce st j, x < st + j := by
 induction j with
 | zero => intro x hx; simp [spK] at hx
 | succ j ih =>
  intro x hx
  simp only [spK, List.mem_append, List.mem_singleton] at hx
  rcases hx with hx | rfl
  ·
   have := ih x hx; omega
  ·
   split
   ·
    omega
   ·
    have := Nat.mod_lt (tgN nonce (st + j)) (show 0 < st + j + 1 by omega); omega
theorem spK_nodup (nonce : List UInt8) (st j : Nat) : (spK nonce st j).Nodup := by
 induction j with
 | zero => simp [spK]
 | succ j ih =>
  simp only [spK]
  rw [List.nodup_append]
  refine ⟨ih, by simp, ?_⟩
  intro x hx y hy
  rw [List.mem_singleton] at hy
  subst hy
  split
  ·
   have := spK_lt nonce st j x hx; omega
  ·
   rename_i h
   intro e
   subst e
   exact h (by simpa using hx)
def intsN (l : List Nat) : List Int := l.map fun (n : Nat) => (n : Int)
/-- The spots, ascending. -/
def spotsL (nonce : List UInt8) (b c : Nat) : List Int := (intsN (spK nonce (b - c) c)).mergeSort fun x y => decide (x ≤ y)
def spotB (nl : Nat) (b c : Int) : Bool := decide (nl = 32) && (decide (1 ≤ b) && (decide (b ≤ 1048576) && (decide (0 ≤ c) && (decide (c ≤ 64) && decide (c ≤ b)))))

/-- The map's entries. -/
def spE (l : List Nat) : List (Value × Value) := l.map fun (n : Nat) => (.int .i64 (n : Int), .bool true)
theorem spE_found {l : List Nat} {t : Nat} {v : Value} {f : Bool} (h : Found (spE l) (.int .i64 (t : Int)) (.bool false) v f) : v = .bool (l.contains t) := by
 cases h with
 | yes i v h =>
  unfold spE at h
  rw [List.getElem?_map] at h
  cases hl : l[i]? with
  | none => rw [hl] at h; cases h
  | some n =>
   rw [hl] at h
   simp only [Option.map_some, Option.some.injEq, Prod.mk.injEq, Value.int.injEq, true_and] at h
   obtain ⟨h1, rfl⟩ := h
   have e : n = t := by omega
   subst e
   rw [show l.contains n = true by simpa using List.mem_of_getElem? hl]
 | no h =>
  rw [show l.contains t = false by
   rw [Bool.eq_false_iff]
   intro hc
   have hm : t ∈ l := by simpa using hc
   exact h (.int .i64 (t : Int), .bool true) (List.mem_map.2 ⟨t, hm, rfl⟩) rfl]
theorem spE_stored {l : List Nat} {t : Nat} {L' : List (Value × Value)} (h : Stored (spE l) (.int .i64 (t : Int)) (.bool true) L') (hn : t ∉ l) : L' = spE (l ++ [t]) := by
 cases h with
 | old i u h =>
  exfalso
  have hm := List.mem_of_getElem? h
  obtain ⟨n, hn2, e⟩ := List.mem_map.1 hm
  simp only [Prod.mk.injEq, Value.int.injEq, true_and] at e
  have e1 : n = t := by omega
  subst e1
  exact hn hn2
 | new h => simp [spE]
theorem keyInt (t : Nat) (h : t < 9223372036854775808) : ∃ lx, keyOf Tryz.prog 3 (.int .i64 (t : Int)) = some lx :=
 ⟨_, Go.Maps.keyOf_int_mk Tryz.underlying3 (by simp [Lit.wf, IntKind.min, IntKind.max, IntKind.signed, IntKind.bits]; omega)⟩
end Go.Proofs.YtfcakjpljjnjnaaGreatDoor
/- slices.Sort of a row of ints that the call made. -/
namespace Go.Proofs.YtfcakjpljjnjnaaGreatDoor
open Go.RowKit Gf Go.Sort
/-- The sorted list. -/
def isort (z : List Int) : List Int := z.mergeSort fun x y => decide (x ≤ y)
theorem isort_length (z : List Int) : (isort z).length = z.length := by simp [isort]

def SortRet (base : Nat) (v : Value) (n : Nat) (z : List Int) (w : World) (e : Ending) (w' : World) : Prop :=
 e = .returned (.tuple #[]) ∧ w'.ownsRow base 3 1 v n ((isort z).map (Value.int .i64)) ∧ w.grownBy w' v.ownBlock

theorem sort_own (base : Nat) (v : Value) (n : Nat) (z : List Int) (w : World) (h : w.ownsRow base 3 1 v n (z.map (Value.int .i64))) (hn : n < 4611686018427387904) :
  Calls Tryz.prog 41 #[v] w (SortRet base v n z w) := by
 have hl := h.1
 simp only [List.length_map, Nat.mul_one] at hl
 rcases h.2 with ⟨rfl, h0⟩ | ⟨g, cap, cur, rfl, hbase, hb, h1, h2, h3, h4⟩
 ·
  refine (Tryz.slices_Sort_int_none none 0 w).mono ?_
  rintro e w' ⟨rfl, rfl⟩
  have hz : z = [] := List.length_eq_zero_iff.1 (by omega)
  subst hz
  refine ⟨rfl, ?_, ?_⟩
  ·
   simpa [isort] using h
  ·
   exact ⟨rfl, rfl, rfl, Nat.le_refl _, fun _ _ _ => rfl⟩
 ·
  subst hl
  refine (Tryz.slices_Sort_int g 0 cap z w (holds_of_blockI hb (by simpa using h4)) (Array.getElem?_eq_some_iff.1 hb).1 hn).mono ?_
  rintro e w' ⟨rfl, nn, os, rfl⟩
  exact ⟨rfl, ownsRow_sortedI (isort_length z) hbase hb h1 h2 h3, grownBy_sortedI _⟩
end Go.Proofs.YtfcakjpljjnjnaaGreatDoor
/- Contract of challenge.Spots. -/
namespace Go.Proofs.YtfcakjpljjnjnaaGreatDoor
open Go Go.RowKit Gf Sha

theorem bsl4' (a b c d : UInt8) (w : World) : (Instr.buildSlice 39 4 #[(0, B a), (1, B b), (2, B c), (3, B d)]).run Tryz.prog w = .ok (.slice (some ⟨w.heap.size, 0, none⟩) 4 4) (w.alloc (.cells [B a, B b, B c, B d].toArray 5)) := bsl4 a b c d w
theorem zeroBool : (Tryz.prog.info? 4).map (·.zero) = some (some (.bool false)) := by kernel_rfl
theorem intKeyed : Go.Maps.Keyed Tryz.prog 3 := Go.Maps.int_keyed Tryz.underlying3

/-- A row of ints of the call's own. -/
def OI (base : Nat) (z : List Int) (w : World) (v : Value) (n : Nat) : Prop := n = z.length ∧ w.ownsRow base 3 1 v n (z.map (Value.int .i64))
/-- What Spots leaves. -/
def SpRet (nonce : List UInt8) (b c : Nat) (w : World) (e : Ending) (w' : World) : Prop :=
 ∃ v, e = .returned (.tuple #[v, .int .i64 0]) ∧ (∃ A n cp, v = .slice A n cp) ∧ OI w.heap.size (spotsL nonce b c) w' v c ∧ Below w.heap.size w w'
theorem own_below {w w' : World} {base n : Nat} {e : TypeId} {v : Value} {xs : List Value} (h : w.ownsRow base e 1 v n xs) (hb : Below w.heap.size w w') : w'.ownsRow base e 1 v n xs :=
 (Kp.of_below (S := fun _ => False) hb).own h (fun _ _ h => h)
theorem spotB_parts {nl : Nat} {b c : Int} (h : spotB nl b c = true) : nl = 32 ∧ 1 ≤ b ∧ b ≤ 1048576 ∧ 0 ≤ c ∧ c ≤ 64 ∧ c ≤ b := by
 simp only [spotB, Bool.and_eq_true, decide_eq_true_eq] at h
 exact ⟨h.1, h.2.1, h.2.2.1, h.2.2.2.1, h.2.2.2.2.1, h.2.2.2.2.2⟩

theorem own_mono {w : World} {base base' n : Nat} {e : TypeId} {v : Value} {xs : List Value} (h : w.ownsRow base e 1 v n xs) (hb : base' ≤ base) : w.ownsRow base' e 1 v n xs := by
 refine ⟨h.1, ?_⟩
 rcases h.2 with h0 | ⟨g, cap, cur, rfl, hg, hr⟩
 ·
  exact .inl h0
 ·
  exact .inr ⟨g, cap, cur, rfl, Nat.le_trans hb hg, hr⟩
theorem ownsRow_al {w : World} {base n : Nat} {e : TypeId} {v : Value} {xs : List Value} (h : w.ownsRow base e 1 v n xs) (o : Obj) : (w.alloc o).ownsRow base e 1 v n xs := own_below h ((Below.refl _ _).alloc (Nat.le_refl _) _)
theorem mb_below {P : Program} {k : TypeId} {w w' : World} {b B : Nat} {L : List (Value × Value)} (h : MB P k w b L) (hb : Below B w w') (hl : b < B) : MB P k w' b L := by
 obtain ⟨es, clock, h1, h2⟩ := h
 exact ⟨es, clock, (hb.block b hl).trans h1, h2⟩

set_option maxRecDepth 100000 in
set_option maxHeartbeats 4000000 in
theorem spots_yes (nonce : List UInt8) (b c : Nat) (w : World) (hT : Tabs w) (hv : spotB nonce.length b c = true) :
  Calls Tryz.prog 15 #[.string (strB nonce), .int .i64 (b : Int), .int .i64 (c : Int)] w (SpRet nonce b c w) := by
 obtain ⟨v1, v2, v3, _, v5, v6⟩ := spotB_parts hv
 have h1 : (((strB nonce).size : Int) != 32) = false := by rw [strB_size, v1]; rfl
 have H32 := Lib.hid v1
 have hbc : c ≤ b := by omega
 have hc64 : c ≤ 64 := by omega
 have hc0 : 0 ≤ (c : Int) := by omega
 have hb1 : 1 ≤ (b : Int) := v2
 have hb2 : (b : Int) ≤ 1048576 := v3
 have hci : (c : Int) ≤ 64 := v5
 have HT := Lib.hid hT
 obtain ⟨st, hst⟩ : ∃ st, st = b - c := ⟨_, rfl⟩
 have HST : Hid ((b : Int) - (c : Int) = (st : Int)) := Lib.hid (by omega)
 have HSB : Hid (st + c = b) := Lib.hid (by omega)
 have HSE := Lib.hid hst
 have HBX : Hid (b ≤ 1048576) := Lib.hid (by omega)
 have d1 : decide ((b : Int) < 1) = false := decide_eq_false (by omega)
 have d2 : decide (1048576 < (b : Int)) = false := decide_eq_false (by omega)
 have d3 : decide ((c : Int) < 0) = false := decide_eq_false (by omega)
 have d4 : decide (64 < (c : Int)) = false := decide_eq_false (by omega)
 clear hT hv v1 hst v2 v3 v5 v6
 go_enter Tryz.func15, Tryz.ntmps15
 go_wp2_with (first
  | ((with_reducible show OpW 39); refine wpList_makeMap _ rfl 84 3 rfl ?_; intro w1 a1 a2 a3; have HM1 := Lib.hid a1; have HB1 := Lib.hid a2; have HZ1 := Lib.hid a3; clear a1 a2 a3)
  | ((with_reducible show OpW 41); refine wpList_mk _ rfl 52 3 _ _ rfl (.int .i64 0) 8 Tryz.underlying52 infoInt rfl 0 c 0 _ rfl rfl rfl rfl (by omega) (by omega) (by omega) ?_; intro w2 a1 a2 a3; have HL2 := Lib.hid a1; have HB2 := Lib.hid (below_then HB1.out a2); have HM2 := Lib.hid (HM1.out.kept a2); have HZ2 := Lib.hid a3; clear a1 a2 a3))
 have HO2 : Hid (w2.ownsRow w1.heap.size 3 1 (.slice (some ⟨w1.heap.size, 0, none⟩) 0 c) 0 ((intsN (spK nonce st 0)).map (Value.int .i64))) := Lib.hid (BL.own0 HL2.out (Nat.le_refl _) (by simp) (by unfold lim; omega))
 go_loopw [9, 10] (fun v iv wr => ∃ (j m g cc k : Nat), j ≤ c ∧ m ≤ 64 ∧ (k : Int) ≤ 1048576 ∧ iv = .int .i64 (k : Int) ∧ v = .slice (some ⟨g, 0, none⟩) m cc ∧ Hid (k = st + j) ∧ Hid (m = j) ∧ Hid (wr.ownsRow w1.heap.size 3 1 (.slice (some ⟨g, 0, none⟩) m cc) m ((intsN (spK nonce st j)).map (Value.int .i64))) ∧ Hid (MB Tryz.prog 3 wr w.heap.size (spE (spK nonce st j))) ∧ Hid (Below w.heap.size w wr) ∧ Hid (w1.heap.size ≤ wr.heap.size)) (fun v _ _ => 65 - lenV v)
 case atStart => exact ⟨0, 0, _, _, st, by omega, by omega, by have := HSB.out; have := HBX.out; omega, congrArg (Value.int .i64) HST.out, rfl, Lib.hid rfl, Lib.hid rfl, HO2, HM2, HB2, Lib.hid (by have := HZ2.out; omega)⟩
 case round =>
  obtain ⟨j, m, g, cc, k, hj, hm64, hk20, rfl, rfl, hkj, hmj, ho, hmb, hb, hz⟩ := hrel
  obtain ⟨wx, hwx⟩ : ∃ x, x = wr := ⟨_, rfl⟩
  rw [← hwx] at ho hmb hb hz ⊢
  clear hwx
  have hk0 : 0 ≤ (k : Int) := by omega
  by_cases hlt : k < b
  ·
   have HTx := Lib.hid (HT.out.kept hb.out)
   go_wp2_with (first
    | ((with_reducible show OpW 51); refine wpList_bslice _ rfl 39 5 4 _ rfl #[(0, B 115), (1, B 112), (2, B 111), (3, B 116)] (by rw [List.map_toArray]; rfl) (([115, 112, 111, 116] : List UInt8).map B) (bsl4' 115 112 111 116 _) ?_; intro w3 a1 a2 a3; have HC3 := Lib.hid a1; have HX3 := Lib.hid a2; have HZ3 := Lib.hid a3; clear a1 a2 a3)
    | ((with_reducible show OpW 52); refine wpList_same _ rfl (.tmp 51) rfl wx.heap.size 4 4 [115, 112, 111, 116] rfl HC3.out rfl (by decide) rfl ?_; intro w4 a1 a2 a3; have HC4 := Lib.hid a1; have HX4 : Hid (Below wx.heap.size wx w4) := Lib.hid (((Kp.of_below (S := fun _ => False) HX3.out).after a2 (fun i hi e => by omega)).below (Nat.le_refl _) (fun _ h => h.elim)); clear a1 a2 a3)
    | (go_at_call 40; refine (appu_any _ 4 4 k [115, 112, 111, 116] w4 HC4.out (by decide) (by omega)).mono ?_; rintro e w6 ⟨v6, g6, n6, c6, rfl, rfl, r1, r2, r3, r4⟩; have HX6 := Lib.hid (below_thenB HX4.out HX4.out.size r3); have HN6 := Lib.hid r1; obtain ⟨A7, c7, e7, hb7⟩ := BS.of_own r2 (by rw [← r1]; have := uv_length k; simp; unfold lim; omega); cases e7; have HS7 := Lib.hid hb7; clear r1 r2 r3 r4 hb7)
    | (go_at_call 39; refine (tag_any _ n6 c6 nonce _ w6 HS7.out (HTx.out.kept HX6.out) (by rw [H32.out]; decide)).mono ?_; rintro e w7 ⟨rfl, b7⟩; have HX7 := Lib.hid (below_thenB HX6.out HX6.out.size b7); clear b7))
   obtain ⟨tg, htg⟩ : ∃ tg, tg = tagL nonce (115 :: 112 :: 111 :: 116 :: uv k) := ⟨_, rfl⟩
   have HTL : Hid (tg.length = 32) := Lib.hid (by rw [htg]; exact tagL_length _ _)
   have HTG : Hid (beN (tg.take 8) = tgN nonce (st + j)) := Lib.hid (by rw [htg, ← hkj.out]; rfl)
   rw [← htg]
   clear htg
   go_loop [12, 57] (fun v i => ∃ q X : Nat, q ≤ 8 ∧ i = .int .i64 (q : Int) ∧ v = .int .u64 (X : Int) ∧ Hid (X = beN (tg.take q))) (fun _ i => 8 - (intOf i).toNat)
   case atStart => exact ⟨0, 0, by omega, rfl, rfl, Lib.hid rfl⟩
   case round =>
    obtain ⟨q, X, hq, rfl, rfl, hX⟩ := hrel
    by_cases hq8 : q < 8
    ·
     have hX8 : Hid (X * 2 ^ 8 < 18446744073709551616) := Lib.hid (by
      have h1 := beN_lt (tg.take q)
      rw [List.length_take, HTL.out, Nat.min_eq_left (by omega), ← hX.out] at h1
      have h2 : 256 ^ q ≤ 256 ^ 7 := Nat.pow_le_pow_right (by omega) (by omega)
      have h3 : X < 256 ^ 7 := Nat.lt_of_lt_of_le h1 h2
      have h4 : X < 72057594037927936 := h3
      show X * 256 < 18446744073709551616
      omega)
     have HBt : Hid ((gB tg q).toNat < 18446744073709551616) := Lib.hid (by have := (gB tg q).toNat_lt; omega)
     have HXn : Hid (X * 2 ^ 8 ||| (gB tg q).toNat = beN (tg.take (q + 1))) := Lib.hid (by
      rw [List.take_succ_eq_append_getElem (by rw [HTL.out]; omega), beN_snoc, ← hX.out, ← gB_eq (by rw [HTL.out]; omega)]
      exact or_low X _ (gB tg q).toNat_lt)
     go_wp2_with (first
      | ((with_reducible show OpW 61); refine wpList_shlN _ rfl (.tmp 60) _ 86 _ rfl .u64 X 8 _ 8 rfl rfl rfl rfl (by decide) hX8.out ?_)
      | ((with_reducible show OpW 64); refine wpList_idxS _ rfl (.tmp 62) (.tmp 63) 9 rfl Tryz.underlying9 tg q _ rfl rfl rfl (by rw [HTL.out]; omega) ?_)
      | ((with_reducible show OpW 65); refine wpList_convN _ rfl (.tmp 64) 5 86 rfl _ .u8 .u64 Tryz.underlying5 Tryz.underlying86 (gB tg q).toNat _ rfl rfl (wrapU _ HBt.out) ?_)
      | ((with_reducible show OpW 66); refine wpList_orN _ rfl (.tmp 61) (.tmp 65) 86 86 rfl (X * 2 ^ 8) (gB tg q).toNat _ _ rfl rfl rfl rfl hX8.out HBt.out ?_))
     go_round
     case rel => exact ⟨q + 1, _, by omega, by go_num, rfl, HXn⟩
     case measure => simp [intOf]; omega
    ·
     obtain rfl : q = 8 := by omega
     rw [show ((8 : Nat) : Int) = 8 from rfl]
     obtain ⟨t, ht⟩ : ∃ t, t = X % (k + 1) := ⟨_, rfl⟩
     have HTT : Hid (t = tgN nonce (st + j) % (st + j + 1)) := Lib.hid (by rw [ht, hX.out, HTG.out, hkj.out])
     have HTk : Hid (t ≤ k) := Lib.hid (by have := Nat.mod_lt X (show 0 < k + 1 by omega); omega)
     have HTW : Hid (IntKind.i64.wrap (t : Int) = (t : Int)) := Lib.hid (IntWalk.i64_in _ (by have := HTk.out; omega))
     have HTE := Lib.hid ht
     have HMB := Lib.hid (hmb.out.kept HX7.out)
     have HO7 := Lib.hid (own_below ho.out HX7.out)
     have HW7 := Lib.hid (below_thenB hb.out hb.out.size HX7.out)
     have HZ7 : Hid (w1.heap.size ≤ w7.heap.size) := Lib.hid (by have := hz.out; have := HX7.out.size; omega)
     clear ht
     by_cases hct : (spK nonce st j).contains t = true
     ·
      have HS : Hid (spK nonce st (j + 1) = spK nonce st j ++ [k]) := Lib.hid (by
       have e : spK nonce st (j + 1) = spK nonce st j ++ [if (spK nonce st j).contains (tgN nonce (st + j) % (st + j + 1)) then st + j else tgN nonce (st + j) % (st + j + 1)] := rfl
       rw [e, ← HTT.out, if_pos hct, hkj.out])
      have HNI : Hid (k ∉ spK nonce st j) := Lib.hid (fun h => by have := spK_lt nonce st j k h; have := hkj.out; omega)
      have HCT := Lib.hid hct
      clear hct
      go_wp2_with (first
       | ((with_reducible show OpW 72); refine wpList_remN _ rfl (.tmp 68) (.tmp 71) 86 86 rfl X (k + 1) _ _ rfl rfl rfl (by omega) (by omega) ?_; rw [← HTE.out])
       | ((with_reducible show OpW 73); refine wpList_convN _ rfl (.tmp 72) 86 3 rfl _ .u64 .i64 Tryz.underlying86 Tryz.underlying3 t _ rfl rfl HTW.out ?_)
       | ((with_reducible show OpW 76); refine wpList_look _ rfl (.tmp 74) (.tmp 75) 84 3 4 rfl intKeyed Tryz.underlying84 _ zeroBool w.heap.size _ rfl HMB.out _ rfl (keyInt t (by have := HTk.out; omega)) ?_; intro vx fx hf; have hfe := spE_found hf; rw [HCT.out] at hfe; subst hfe; clear hf)
       | ((with_reducible show OpN); refine wpList_upd _ rfl (.tmp 78) (.tmp 79) _ 84 3 4 rfl intKeyed Tryz.underlying84 w.heap.size _ rfl HMB.out _ _ rfl rfl (keyInt k (by have := HTk.out; omega)) ?_; intro w8 L' a0 a1 a2 a3; obtain rfl := spE_stored a0 HNI.out; rw [← HS.out] at a1; have HM8 := Lib.hid a1; have HK8 := Lib.hid a2; have HZ8 := Lib.hid a3; clear a0 a1 a2 a3)
       | ((with_reducible show OpW 83); refine wpList_app1 _ rfl (.tmp 80) (.tmp 82) 52 3 (.int .i64 0) 8 Tryz.underlying52 infoInt rfl rfl w1.heap.size _ m ((intsN (spK nonce st j)).map (Value.int .i64)) rfl (ownsRow_al (HK8.out.own HO7.out (fun g hg => by have := own_base HO7.out g hg; have := HM1.out.lt; show ¬ g = w.heap.size; omega)) _) w8.heap.size 1 3 (.int .i64 (k : Int)) rfl (Blk.new w8 3 #[.int .i64 (k : Int)]) rfl (by omega) (by omega) (by have := HZ7.out; have := HZ8.out; simp; omega) ?_; intro v9 w9 hp; have HP := Lib.hid hp; obtain ⟨g9, c9, rfl⟩ := hp.form (by omega); clear hp))
      have HO9 : Hid (w9.ownsRow w1.heap.size 3 1 (.slice (some ⟨g9, 0, none⟩) (m + 1) c9) (m + 1) ((intsN (spK nonce st (j + 1))).map (Value.int .i64))) := Lib.hid (by have := HP.out.own; rw [HS.out, intsN, List.map_append, List.map_append]; exact this)
      have HOW : Hid (w8.ownsRow w1.heap.size 3 1 (.slice (some ⟨g, 0, none⟩) m cc) m ((intsN (spK nonce st j)).map (Value.int .i64))) := Lib.hid (HK8.out.own HO7.out (fun g hg => by have := own_base HO7.out g hg; have := HM1.out.lt; show ¬ g = w.heap.size; omega))
      have HW8 : Hid (Below w.heap.size w w8) := Lib.hid (((Kp.of_below (S := fun _ => False) HW7.out).after HK8.out (fun i hi e => by omega)).below (Nat.le_refl _) (fun _ h => h.elim))
      have HW9 : Hid (Below w.heap.size w w9) := Lib.hid (HP.out.below (ownsRow_al HOW.out _) (HW8.out.alloc HW8.out.size _) (by have := HB1.out.size; omega) (by have := HW8.out.size; simp; omega))
      have HM9 : Hid (MB Tryz.prog 3 w9 w.heap.size (spE (spK nonce st (j + 1)))) := Lib.hid (by
       have e1 : Below w1.heap.size w8 w9 := HP.out.below (ownsRow_al HOW.out _) ((Below.refl _ _).alloc (by have := HZ7.out; have := HZ8.out; omega) _) (Nat.le_refl _) (by have := HZ7.out; have := HZ8.out; simp; omega)
       exact mb_below HM8.out e1 HM1.out.lt)
      have HZ9 : Hid (w1.heap.size ≤ w9.heap.size) := Lib.hid (by have h1 := HP.out.2.1.size; have := HZ7.out; have := HZ8.out; simp at h1; omega)
      go_wp2_with fail
      go_roundw
      case rel => exact ⟨j + 1, m + 1, _, _, k + 1, by have := hkj.out; have := HSB.out; omega, by have := hkj.out; have := HSB.out; have := hmj.out; omega, by have := HBX.out; omega, by go_num, rfl, Lib.hid (by rw [hkj.out]; omega), Lib.hid (by rw [hmj.out]), HO9, HM9, HW9, HZ9⟩
      case measure => simp [lenV]; omega
     ·
      rw [Bool.not_eq_true] at hct
      have HS : Hid (spK nonce st (j + 1) = spK nonce st j ++ [t]) := Lib.hid (by
       have e : spK nonce st (j + 1) = spK nonce st j ++ [if (spK nonce st j).contains (tgN nonce (st + j) % (st + j + 1)) then st + j else tgN nonce (st + j) % (st + j + 1)] := rfl
       rw [e, ← HTT.out, if_neg (by rw [hct]; decide)])
      have HNI : Hid (t ∉ spK nonce st j) := Lib.hid (fun h => by
       have h2 : (spK nonce st j).contains t = true := by simpa using h
       rw [hct] at h2; cases h2)
      have HCT := Lib.hid hct
      clear hct
      go_wp2_with (first
       | ((with_reducible show OpW 72); refine wpList_remN _ rfl (.tmp 68) (.tmp 71) 86 86 rfl X (k + 1) _ _ rfl rfl rfl (by omega) (by omega) ?_; rw [← HTE.out])
       | ((with_reducible show OpW 73); refine wpList_convN _ rfl (.tmp 72) 86 3 rfl _ .u64 .i64 Tryz.underlying86 Tryz.underlying3 t _ rfl rfl HTW.out ?_)
       | ((with_reducible show OpW 76); refine wpList_look _ rfl (.tmp 74) (.tmp 75) 84 3 4 rfl intKeyed Tryz.underlying84 _ zeroBool w.heap.size _ rfl HMB.out _ rfl (keyInt t (by have := HTk.out; omega)) ?_; intro vx fx hf; have hfe := spE_found hf; rw [HCT.out] at hfe; subst hfe; clear hf)
       | ((with_reducible show OpN); refine wpList_upd _ rfl (.tmp 78) (.tmp 79) _ 84 3 4 rfl intKeyed Tryz.underlying84 w.heap.size _ rfl HMB.out _ _ rfl rfl (keyInt t (by have := HTk.out; omega)) ?_; intro w8 L' a0 a1 a2 a3; obtain rfl := spE_stored a0 HNI.out; rw [← HS.out] at a1; have HM8 := Lib.hid a1; have HK8 := Lib.hid a2; have HZ8 := Lib.hid a3; clear a0 a1 a2 a3)
       | ((with_reducible show OpW 83); refine wpList_app1 _ rfl (.tmp 80) (.tmp 82) 52 3 (.int .i64 0) 8 Tryz.underlying52 infoInt rfl rfl w1.heap.size _ m ((intsN (spK nonce st j)).map (Value.int .i64)) rfl (ownsRow_al (HK8.out.own HO7.out (fun g hg => by have := own_base HO7.out g hg; have := HM1.out.lt; show ¬ g = w.heap.size; omega)) _) w8.heap.size 1 3 (.int .i64 (t : Int)) rfl (Blk.new w8 3 #[.int .i64 (t : Int)]) rfl (by omega) (by omega) (by have := HZ7.out; have := HZ8.out; simp; omega) ?_; intro v9 w9 hp; have HP := Lib.hid hp; obtain ⟨g9, c9, rfl⟩ := hp.form (by omega); clear hp))
      have HO9 : Hid (w9.ownsRow w1.heap.size 3 1 (.slice (some ⟨g9, 0, none⟩) (m + 1) c9) (m + 1) ((intsN (spK nonce st (j + 1))).map (Value.int .i64))) := Lib.hid (by have := HP.out.own; rw [HS.out, intsN, List.map_append, List.map_append]; exact this)
      have HOW : Hid (w8.ownsRow w1.heap.size 3 1 (.slice (some ⟨g, 0, none⟩) m cc) m ((intsN (spK nonce st j)).map (Value.int .i64))) := Lib.hid (HK8.out.own HO7.out (fun g hg => by have := own_base HO7.out g hg; have := HM1.out.lt; show ¬ g = w.heap.size; omega))
      have HW8 : Hid (Below w.heap.size w w8) := Lib.hid (((Kp.of_below (S := fun _ => False) HW7.out).after HK8.out (fun i hi e => by omega)).below (Nat.le_refl _) (fun _ h => h.elim))
      have HW9 : Hid (Below w.heap.size w w9) := Lib.hid (HP.out.below (ownsRow_al HOW.out _) (HW8.out.alloc HW8.out.size _) (by have := HB1.out.size; omega) (by have := HW8.out.size; simp; omega))
      have HM9 : Hid (MB Tryz.prog 3 w9 w.heap.size (spE (spK nonce st (j + 1)))) := Lib.hid (by
       have e1 : Below w1.heap.size w8 w9 := HP.out.below (ownsRow_al HOW.out _) ((Below.refl _ _).alloc (by have := HZ7.out; have := HZ8.out; omega) _) (Nat.le_refl _) (by have := HZ7.out; have := HZ8.out; simp; omega)
       exact mb_below HM8.out e1 HM1.out.lt)
      have HZ9 : Hid (w1.heap.size ≤ w9.heap.size) := Lib.hid (by have h1 := HP.out.2.1.size; have := HZ7.out; have := HZ8.out; simp at h1; omega)
      go_wp2_with fail
      go_roundw
      case rel => exact ⟨j + 1, m + 1, _, _, k + 1, by have := hkj.out; have := HSB.out; omega, by have := hkj.out; have := HSB.out; have := hmj.out; omega, by have := HBX.out; omega, by go_num, rfl, Lib.hid (by rw [hkj.out]; omega), Lib.hid (by rw [hmj.out]), HO9, HM9, HW9, HZ9⟩
      case measure => simp [lenV]; omega
  ·
   obtain rfl : k = b := by have := hkj.out; have := HSB.out; omega
   obtain rfl : j = c := by have := hkj.out; have := HSB.out; omega
   have e9 := hmj.out
   subst e9
   have HSO : Hid (isort (intsN (spK nonce st m)) = spotsL nonce k m) := Lib.hid (by rw [spotsL, ← HSE.out]; rfl)
   go_wp2_with (go_at_call 41; refine (sort_own w1.heap.size _ m (intsN (spK nonce st m)) wx ho.out (by omega)).mono ?_; rintro e w9 ⟨rfl, r1, r2⟩; have HR1 := Lib.hid r1; have HR2 := Lib.hid r2; clear r1 r2)
   go_ret2
   refine ⟨_, rfl, ⟨_, _, _, rfl⟩, ⟨?_, ?_⟩, ?_⟩
   ·
    rw [← HSO.out, isort_length]; simp [intsN, spK_length]
   ·
    rw [← HSO.out]
    have h9 := own_mono HR1.out HB1.out.size
    exact h9
   ·
    exact hb.out.grown HR2.out hb.out.size (fun i hi => by have := own_base ho.out i hi; have := HB1.out.size; omega)
end Go.Proofs.YtfcakjpljjnjnaaGreatDoor
