/- Several texts in one: Ari2, Mer1, Mer2, Text3, Mer3, Mt0, Pu4, Mt1. -/
import Derived.Test.YtheijpjfpaghfaaGreatDoorC7
import Derived.Test.YtheijpjfpaghfaaGreatDoorC5
import Derived.Test.YtheijpjfpaghfaaGreatDoorC12
import Derived.Test.YtheijpjfpaghfaaGreatDoorShelf
import Derived.Test.YtheijpjfpaghfaaGreatDoorC4
import Derived.Test.YtheijpjfpaghfaaGreatDoorC6
/- More operations on numbers that are casts of naturals; a byte of a string. Proved for any program. -/
namespace Go.Proofs.YtheijpjfpaghfaaGreatDoor
open Go Go.RowKit Gf

section
variable {P : Program} (w : World) {ops : Array Oper} {rest : List Oper} {o : Oper} {a : Act} {Q : Exit → Act → World → Prop}
theorem wrapU (n : Nat) (h : n < 18446744073709551616) : IntKind.u64.wrap (n : Int) = (n : Int) := by
  show (n : Int) % 18446744073709551616 = _; omega
/-- x << s. -/
theorem wpList_shlN (hg : o.guard = none) (x y : Operand) (t t2 : TypeId) (hop : o.op = .binOp .shl t x y t2) (ky : IntKind) (X s : Nat) (zx zy : Int) (hx : a.eval x = .int .u64 zx) (hy : a.eval y = .int ky zy) (hX : zx = (X : Int)) (hs : zy = (s : Int)) (hs64 : s ≤ 64) (hb : X * 2 ^ s < 18446744073709551616)
    (h : wpList P ops Q rest (a.put o.dst (.int .u64 ((X * 2 ^ s : Nat) : Int))) w) : wpList P ops Q (o :: rest) a w :=
  wpList_plain hg fun K hK => by
    subst hX hs
    have e : ∀ w', (binOp .shl t (.int .u64 (X : Int)) (.int ky (s : Int))).run P w' = .ok (.int .u64 ((X * 2 ^ s : Nat) : Int)) w' := fun w' => by
      have e3 : (X : Int) * 2 ^ min (s : Int).toNat IntKind.u64.bits = ((X * 2 ^ s : Nat) : Int) := by
        rw [Int.toNat_natCast, Nat.min_eq_left (by show s ≤ 64; exact hs64), Int.natCast_mul, Int.natCast_pow]; rfl
      show (Op.shift .shl .u64 (X : Int) ky (s : Int)).run P w' = _
      unfold Op.shift
      rw [if_neg (by omega)]
      show Result.ok (Value.int IntKind.u64 (IntKind.u64.wrap _)) w' = _
      rw [e3, wrapU _ hb]
    unfold Oper.wp execOp
    simp only [hop, hx, hy]
    simp [eqGuard, Result.andThen, e]
    exact hK _ _ (by simpa using h)
/-- x | y. -/
theorem wpList_orN (hg : o.guard = none) (x y : Operand) (t t2 : TypeId) (hop : o.op = .binOp .or t x y t2) (X Y : Nat) (zx zy : Int) (hx : a.eval x = .int .u64 zx) (hy : a.eval y = .int .u64 zy) (hX : zx = (X : Int)) (hY : zy = (Y : Int)) (hXb : X < 18446744073709551616) (hYb : Y < 18446744073709551616)
    (h : wpList P ops Q rest (a.put o.dst (.int .u64 ((X ||| Y : Nat) : Int))) w) : wpList P ops Q (o :: rest) a w :=
  wpList_plain hg fun K hK => by
    subst hX hY
    have e : ∀ w', (binOp .or t (.int .u64 (X : Int)) (.int .u64 (Y : Int))).run P w' = .ok (.int .u64 ((X ||| Y : Nat) : Int)) w' := fun w' => by
      have e2 := u64_or_nat X Y hXb hYb
      show Result.ok (Value.int IntKind.u64 (bits .or .u64 (X : Int) (Y : Int))) w' = _
      rw [e2]
    unfold Oper.wp execOp
    simp only [hop, hx, hy]
    simp [eqGuard, Result.andThen, e]
    exact hK _ _ (by simpa using h)
/-- x % y. -/
theorem wpList_remN (hg : o.guard = none) (x y : Operand) (t t2 : TypeId) (hop : o.op = .binOp .rem t x y t2) (X Y : Nat) (zx zy : Int) (hx : a.eval x = .int .u64 zx) (hy : a.eval y = .int .u64 zy) (hX : zx = (X : Int)) (hY : zy = (Y : Int)) (hY0 : 0 < Y)
    (h : wpList P ops Q rest (a.put o.dst (.int .u64 ((X % Y : Nat) : Int))) w) : wpList P ops Q (o :: rest) a w :=
  wpList_plain hg fun K hK => by
    subst hX hY
    have e : ∀ w', (binOp .rem t (.int .u64 (X : Int)) (.int .u64 (Y : Int))).run P w' = .ok (.int .u64 ((X % Y : Nat) : Int)) w' := fun w' => by
      have hne : ¬ Y = 0 := by omega
      show (Op.intDiv .rem .u64 (X : Int) (Y : Int)).run P w' = _
      unfold Op.intDiv
      simp [hne]
      exact Int.tmod_eq_emod_of_nonneg (by omega)
    unfold Oper.wp execOp
    simp only [hop, hx, hy]
    simp [eqGuard, Result.andThen, e]
    exact hK _ _ (by simpa using h)
/-- A number in another kind that holds it. -/
theorem wpList_convN (hg : o.guard = none) (x : Operand) (t t2 : TypeId) (hop : o.op = .convert t t2 x) (d : TypeDesc) (k k2 : IntKind) (ht : P.underlying t = some d) (ht2 : P.underlying t2 = some (.int k2)) (X : Nat) (zx : Int) (hx : a.eval x = .int k zx) (hX : zx = (X : Int)) (hw : k2.wrap (X : Int) = (X : Int))
    (h : wpList P ops Q rest (a.put o.dst (.int k2 (X : Int))) w) : wpList P ops Q (o :: rest) a w :=
  wpList_plain hg fun K hK => by
    subst hX
    unfold Oper.wp execOp
    simp only [hop, hx]
    simp [convert, run_underlying ht, run_underlying ht2, Conv.intToInt, Result.andThen, hw]
    exact hK _ _ h
/-- s[k]. -/
theorem wpList_idxS (hg : o.guard = none) (x y : Operand) (t : TypeId) (hop : o.op = .index t x y) (ht : P.underlying t = some .string) (l : List UInt8) (k : Nat) (zy : Int) (hx : a.eval x = .string (strB l)) (hy : a.eval y = .int .i64 zy) (hz : zy = (k : Int)) (hk : k < l.length)
    (h : wpList P ops Q rest (a.put o.dst (B (gB l k))) w) : wpList P ops Q (o :: rest) a w :=
  wpList_plain hg fun K hK => by
    subst hz
    have e : (strB l)[k]? = some (gB l k) := by
      have h1 : k < (strB l).size := hk
      rw [getElem?_pos (strB l) k h1, gB_eq hk]
      rfl
    unfold Oper.wp execOp
    simp only [hop, hx, hy]
    have hr : (Instr.index t (.string (strB l)) (.int .i64 (k : Int))).run P w = .ok (B (gB l k)) w := by
      unfold Instr.index
      rw [Sem.run_bind]
      simp only [asIntOf, Sem.run_pure, Result.andThen_ok, Sem.run_bind, run_underlying ht]
      rw [if_pos (by omega), Int.toNat_natCast, e]
      rfl
    simp [hr, Result.andThen]
    exact hK _ _ h
end
/-- A number out of bytes, the greatest first. -/
def beN (l : List UInt8) : Nat := l.foldl (fun v b => v * 256 + b.toNat) 0
theorem beN_snoc (l : List UInt8) (b : UInt8) : beN (l ++ [b]) = beN l * 256 + b.toNat := by simp [beN]
theorem beN_lt' (l : List UInt8) : ∀ v, l.foldl (fun v b => v * 256 + b.toNat) v < (v + 1) * 256 ^ l.length := by
  induction l with
  | nil => intro v; simp
  | cons b l ih =>
    intro v
    have h1 := ih (v * 256 + b.toNat)
    have h2 := b.toNat_lt
    rw [List.foldl_cons, List.length_cons, Nat.pow_succ]
    refine Nat.lt_of_lt_of_le h1 ?_
    rw [Nat.mul_comm (256 ^ l.length) 256, ← Nat.mul_assoc]
    exact Nat.mul_le_mul_right _ (by omega)
theorem beN_lt (l : List UInt8) : beN l < 256 ^ l.length := by
  have := beN_lt' l 0
  simpa [beN] using this
theorem or_low (x y : Nat) (h : y < 256) : x * 256 ||| y = x * 256 + y := by
  rw [Nat.mul_comm]
  exact (Nat.two_pow_add_eq_or_of_lt (i := 8) (by simpa using h) x).symm
end Go.Proofs.YtheijpjfpaghfaaGreatDoor
/- Contracts of merkle.split, isSum, areSums, count, extent and of the reference's Split and Sums. -/
namespace Go.Proofs.YtheijpjfpaghfaaGreatDoor
open Go Go.RowKit Gf Sha

/-- The greatest power of two below n. -/
def spl (n : Nat) : Nat := 2 ^ (Lib.bitLen (n - 1) - 1)
theorem spl_dec : ∀ n : Fin 257, 2 ≤ n.val → 1 ≤ spl n.val ∧ spl n.val < n.val ∧ n.val ≤ 2 * spl n.val ∧ 1 ≤ Lib.bitLen (n.val - 1) ∧ Lib.bitLen (n.val - 1) ≤ 8 := by decide +kernel
theorem spl_pow : ∀ n : Fin 257, ∀ j : Fin 9, 2 ≤ n.val → 2 ^ j.val ≤ spl n.val → (2 * 2 ^ j.val < n.val → 2 ^ (j.val + 1) ≤ spl n.val ∧ j.val + 1 < 9) ∧ (n.val ≤ 2 * 2 ^ j.val → 2 ^ j.val = spl n.val) := by decide +kernel
theorem spl_parts {n : Nat} (h2 : 2 ≤ n) (h : n ≤ 256) : 1 ≤ spl n ∧ spl n < n ∧ n ≤ 2 * spl n ∧ 1 ≤ Lib.bitLen (n - 1) ∧ Lib.bitLen (n - 1) ≤ 8 := spl_dec ⟨n, by omega⟩ h2

section
variable {P : Program} (w : World) {ops : Array Oper} {rest : List Oper} {o : Oper} {a : Act} {Q : Exit → Act → World → Prop}
theorem wrapI (n : Nat) (h : n < 9223372036854775808) : IntKind.i64.wrap (n : Int) = (n : Int) := by
  show (if (true && decide ((n : Int) % 18446744073709551616 ≥ 9223372036854775808)) = true then (n : Int) % 18446744073709551616 - 18446744073709551616 else (n : Int) % 18446744073709551616) = (n : Int)
  rw [if_neg (by simp; omega)]
  omega
/-- 1 << s as an int. -/
theorem wpList_shlI (hg : o.guard = none) (x y : Operand) (t t2 : TypeId) (hop : o.op = .binOp .shl t x y t2) (s : Nat) (zy : Int) (hx : a.eval x = .int .i64 1) (hy : a.eval y = .int .i64 zy) (hs : zy = (s : Int)) (hs64 : s ≤ 62)
    (h : wpList P ops Q rest (a.put o.dst (.int .i64 ((2 ^ s : Nat) : Int))) w) : wpList P ops Q (o :: rest) a w :=
  wpList_plain hg fun K hK => by
    subst hs
    have e : ∀ w', (binOp .shl t (.int .i64 1) (.int .i64 (s : Int))).run P w' = .ok (.int .i64 ((2 ^ s : Nat) : Int)) w' := fun w' => by
      have e3 : (1 : Int) * 2 ^ min (s : Int).toNat IntKind.i64.bits = ((2 ^ s : Nat) : Int) := by
        rw [Int.toNat_natCast, Nat.min_eq_left (by show s ≤ 64; omega), Int.one_mul, Int.natCast_pow]; rfl
      show (Op.shift .shl .i64 1 .i64 (s : Int)).run P w' = _
      unfold Op.shift
      rw [if_neg (by omega)]
      show Result.ok (Value.int IntKind.i64 (IntKind.i64.wrap _)) w' = _
      rw [e3]
      have hb : 2 ^ s ≤ 2 ^ 62 := Nat.pow_le_pow_right (by omega) hs64
      have hw : IntKind.i64.wrap ((2 ^ s : Nat) : Int) = ((2 ^ s : Nat) : Int) := by
        refine wrapI _ (Nat.lt_of_le_of_lt hb (by decide))
      rw [hw]
    unfold Oper.wp execOp
    simp only [hop, hx, hy]
    simp [eqGuard, Result.andThen, e]
    exact hK _ _ (by simpa using h)
/-- x / y for ints that are casts. -/
theorem wpList_quoN (hg : o.guard = none) (x y : Operand) (t t2 : TypeId) (hop : o.op = .binOp .quo t x y t2) (X Y : Nat) (zx zy : Int) (hx : a.eval x = .int .i64 zx) (hy : a.eval y = .int .i64 zy) (hX : zx = (X : Int)) (hY : zy = (Y : Int)) (hY0 : 0 < Y) (hb : X < 9223372036854775808)
    (h : wpList P ops Q rest (a.put o.dst (.int .i64 ((X / Y : Nat) : Int))) w) : wpList P ops Q (o :: rest) a w :=
  wpList_plain hg fun K hK => by
    subst hX hY
    have e : ∀ w', (binOp .quo t (.int .i64 (X : Int)) (.int .i64 (Y : Int))).run P w' = .ok (.int .i64 ((X / Y : Nat) : Int)) w' := fun w' => by
      have hne : ¬ Y = 0 := by omega
      show (Op.intDiv .quo .i64 (X : Int) (Y : Int)).run P w' = _
      unfold Op.intDiv
      simp [hne]
      have h5 : X / Y ≤ X := Nat.div_le_self _ _
      rw [show (X : Int) / (Y : Int) = ((X / Y : Nat) : Int) by simp]
      exact wrapI _ (by omega)
    unfold Oper.wp execOp
    simp only [hop, hx, hy]
    simp [eqGuard, Result.andThen, e]
    exact hK _ _ (by simpa using h)
end

/-- All of these are sums. -/
def sumsB (m : List (List UInt8)) : Bool := m.all fun s => decide (s.length = 32)
theorem sums_false {m : List (List UInt8)} {k : Nat} (hk : k < m.length) (h : (gR m k).length ≠ 32) : sumsB m = false := by
  rw [gR_eq hk] at h
  rw [sumsB, List.all_eq_false]
  exact ⟨m[k], List.getElem_mem hk, by simpa using h⟩
theorem sums_true {m : List (List UInt8)} (h : ∀ k, k < m.length → (gR m k).length = 32) : sumsB m = true := by
  rw [sumsB, List.all_eq_true]
  intro x hx
  obtain ⟨i, hi, rfl⟩ := List.getElem_of_mem hx
  have := h i hi
  rw [gR_eq hi] at this
  simpa using this

end Go.Proofs.YtheijpjfpaghfaaGreatDoor
/- Contracts of merkle.climb, merkle.Verify, merkle.See and of the reference's up, Verify, See. -/
namespace Go.Proofs.YtheijpjfpaghfaaGreatDoor
open Go Go.RowKit Gf Sha

/-- The root out of a leaf and a path (from above). -/
def upR (leaf : List UInt8) : Nat → Nat → List (List UInt8) → List UInt8 × Bool
  | _, n, [] => if n = 1 then (leaf, true) else ([], false)
  | i, n, last :: rest =>
    if n = 1 then (leaf, false)
    else if i < spl n then (mnode (upR leaf i (spl n) rest).1 last, (upR leaf i (spl n) rest).2)
    else (mnode last (upR leaf (i - spl n) (n - spl n) rest).1, (upR leaf (i - spl n) (n - spl n) rest).2)
theorem mnode_length (l r : List UInt8) : (mnode l r).length = 32 := sha_length _
theorem mleaf_length (l : List UInt8) : (mleaf l).length = 32 := sha_length _
theorem upR_length {leaf : List UInt8} (h : leaf.length ≤ 32) : ∀ (r : List (List UInt8)) (i n : Nat), (upR leaf i n r).1.length ≤ 32 := by
  intro r
  induction r with
  | nil => intro i n; rw [upR]; split <;> simp [h]
  | cons a r ih =>
    intro i n
    rw [upR]
    split
    · exact h
    · split
      · rw [mnode_length]; exact Nat.le_refl _
      · rw [mnode_length]; exact Nat.le_refl _
theorem TS.pre {w : World} {A : Option Addr} {n c : Nat} {m : List (List UInt8)} (h : TS w A n c m) {k : Nat} (hk : k ≤ n) : TS w A k c (m.take k) := by
  refine ⟨by rw [List.length_take, h.1]; omega, by have := h.2.1; omega, by have := h.2.2.1; omega, fun j hj => ?_⟩
  have h1 := h.2.2.2 j (by omega)
  have h2 : gR (m.take k) j = gR m j := by
    rw [gR_eq (by rw [List.length_take, h.1]; omega), gR_eq (by rw [h.1]; omega), List.getElem_take]
  show ∃ g o, A = some ⟨g, o, none⟩ ∧ w.cell? ⟨g, o + j, none⟩ = some (.string (strB (gR (m.take k) j)))
  rw [h2]
  exact h1
theorem rev_take (a : List UInt8) (r : List (List UInt8)) : (a :: r).reverse.take r.length = r.reverse := by
  rw [List.reverse_cons]
  exact List.take_left' (by simp)
theorem rev_get (a : List UInt8) (r : List (List UInt8)) : gR (a :: r).reverse r.length = a := by
  rw [gR_eq (by simp), List.getElem_reverse]
  simp

end Go.Proofs.YtheijpjfpaghfaaGreatDoor
/- A guarded effect in a text whose guard is met. -/
namespace Go.Proofs.YtheijpjfpaghfaaGreatDoor
open Go
namespace Text
variable {P : Program} {ops : Array Oper} {Q : Exit → Act → World → Prop} {S : World → Prop} {a : Act} {w : World} {r : List (Nat × Nat)} {i : Nat}
theorem effw {o : Oper} (ho : ops[i]? = some o) (hw : Region.wanted o (yielded ops a.tmps) = true) (h : ∀ K : Act → World → Prop, (∀ a w, S w → wpText P ops Q S r a w → K a w) → o.wp P a w K NoQ) : wpText P ops Q S ((i, 2) :: r) a w := by
  have key : wpOp P ops Q i (fun a' w' => S w' ∧ wpText P ops Q S r a' w') a w := by
    unfold wpOp
    simp only [ho]
    rw [if_pos hw]
    exact .inl (wp_of_noQ (h _ fun _ _ h1 h2 => ⟨h1, h2⟩))
  with_unfolding_all exact key
theorem lastw {o : Oper} (ho : ops[i]? = some o) (hw : Region.wanted o (yielded ops a.tmps) = true) (h : ∀ K : Act → World → Prop, (∀ a w, wpText P ops Q S r a w → K a w) → o.wp P a w K NoQ) : wpText P ops Q S ((i, 3) :: r) a w := by
  have key : wpOp P ops Q i (fun a' w' => wpText P ops Q S r a' w') a w := by
    unfold wpOp
    simp only [ho]
    rw [if_pos hw]
    exact .inl (wp_of_noQ (h _ fun _ _ h2 => h2))
  with_unfolding_all exact key
end Text
end Go.Proofs.YtheijpjfpaghfaaGreatDoor
/- Contracts of merkle.Verify, merkle.See and of the reference's Verify, See. -/
namespace Go.Proofs.YtheijpjfpaghfaaGreatDoor
open Go Go.RowKit Gf Sha

/-- A path proves that a leaf is the i-th of n. -/
def verB (leaf : List UInt8) (i n : Nat) (path : List (List UInt8)) (root : List UInt8) : Bool :=
  decide (root.length = 32) && (sumsB path && ((upR leaf i n path.reverse).2 && decide ((upR leaf i n path.reverse).1 = root)))
theorem sums_mem {m : List (List UInt8)} (h : sumsB m = true) : ∀ x ∈ m.reverse, x.length = 32 := by
  intro x hx
  rw [sumsB, List.all_eq_true] at h
  simpa using h x (List.mem_reverse.1 hx)
theorem TS.rev {w : World} {A : Option Addr} {n c : Nat} {m : List (List UInt8)} (h : TS w A n c m) : TS w A m.reverse.length c m.reverse.reverse := by
  rw [List.length_reverse, List.reverse_reverse, h.1]; exact h
theorem strs2 (a b : List UInt8) (w : World) (g : Nat) (h : g = w.heap.size) : TS (w.alloc (.cells #[.string (strB a), .string (strB b)] 9)) (some ⟨g, 0, none⟩) 2 2 [a, b] := by
  subst h
  exact TS.of_blk (m := [a, b]) (BL.new w 9 _) rfl (by decide)

theorem sums2 (a b : List UInt8) (h : a.length = 32) : sumsB [a, b] = decide (b.length = 32) := by simp [sumsB, h]
/-- A block of n bytes in blocks of a size. -/
def seeB (root : List UInt8) (n size b : Nat) (x : List UInt8) (path : List (List UInt8)) : Bool :=
  decide (x.length = min size (n - b * size)) && verB (mleaf x) b ((n - 1) / size + 1) path root

theorem len_ne {a b : Nat} (h : ¬ a = b) : ((a : Int) != (b : Int)) = true := by rw [bne_iff_ne]; omega
theorem len_neF {a b : Nat} (h : a = b) : ((a : Int) != (b : Int)) = false := by subst h; simp

end Go.Proofs.YtheijpjfpaghfaaGreatDoor
/- The tree over leaves, plainly: its root, a leaf's path from above, and that the path leads to the root. -/
namespace Go.Proofs.YtheijpjfpaghfaaGreatDoor
open Go Go.RowKit Gf Sha

/-- The root of leaves (at least one), by fuel. -/
def rtF : Nat → List (List UInt8) → List UInt8
  | 0, _ => []
  | f + 1, L => if L.length ≤ 1 then gR L 0 else mnode (rtF f (L.take (spl L.length))) (rtF f (L.drop (spl L.length)))
def rt (L : List (List UInt8)) : List UInt8 := rtF L.length L
theorem rtF_fuel : ∀ (f g : Nat) (L : List (List UInt8)), 1 ≤ L.length → L.length ≤ 256 → L.length ≤ f → L.length ≤ g → rtF f L = rtF g L := by
  intro f
  induction f with
  | zero => intro g L h1 h2 h3 h4; omega
  | succ f ih =>
    intro g L h1 h2 h3 h4
    obtain ⟨g, rfl⟩ : ∃ k, g = k + 1 := ⟨g - 1, by omega⟩
    rw [rtF, rtF]
    split
    · rfl
    · rename_i h5
      obtain ⟨s1, s2, s3, _, _⟩ := spl_parts (n := L.length) (by omega) h2
      rw [ih g (L.take (spl L.length)) (by rw [List.length_take]; omega) (by rw [List.length_take]; omega) (by rw [List.length_take]; omega) (by rw [List.length_take]; omega),
        ih g (L.drop (spl L.length)) (by rw [List.length_drop]; omega) (by rw [List.length_drop]; omega) (by rw [List.length_drop]; omega) (by rw [List.length_drop]; omega)]
theorem rt_one {L : List (List UInt8)} (h : L.length = 1) : rt L = gR L 0 := by rw [rt, h, rtF, if_pos (by omega)]
theorem rt_two {L : List (List UInt8)} (h : 2 ≤ L.length) (h2 : L.length ≤ 256) : rt L = mnode (rt (L.take (spl L.length))) (rt (L.drop (spl L.length))) := by
  obtain ⟨s1, s2, s3, _, _⟩ := spl_parts h h2
  obtain ⟨f, hf⟩ : ∃ f, L.length = f + 1 := ⟨L.length - 1, by omega⟩
  have e : rt L = rtF (f + 1) L := by rw [rt, hf]
  rw [e, rtF, if_neg (by omega), rt, rt]
  rw [rtF_fuel f (L.take (spl L.length)).length (L.take (spl L.length)) (by rw [List.length_take]; omega) (by rw [List.length_take]; omega) (by rw [List.length_take]; omega) (by rw [List.length_take]; omega),
    rtF_fuel f (L.drop (spl L.length)).length (L.drop (spl L.length)) (by rw [List.length_drop]; omega) (by rw [List.length_drop]; omega) (by rw [List.length_drop]; omega) (by rw [List.length_drop]; omega)]
/-- All leaves have this length. -/
def Lv (L : List (List UInt8)) : Prop := ∀ x ∈ L, x.length = 32
theorem Lv.get {L : List (List UInt8)} (h : Lv L) {k : Nat} (hk : k < L.length) : (gR L k).length = 32 := by rw [gR_eq hk]; exact h _ (List.getElem_mem hk)
theorem Lv.take {L : List (List UInt8)} (h : Lv L) (k : Nat) : Lv (L.take k) := fun x hx => h x (List.mem_of_mem_take hx)
theorem Lv.drop {L : List (List UInt8)} (h : Lv L) (k : Nat) : Lv (L.drop k) := fun x hx => h x (List.mem_of_mem_drop hx)
theorem rt_length {L : List (List UInt8)} (h : Lv L) (h1 : 1 ≤ L.length) (h2 : L.length ≤ 256) : (rt L).length = 32 := by
  by_cases h3 : L.length = 1
  · rw [rt_one h3]; exact h.get (by omega)
  · rw [rt_two (by omega) h2]; exact mnode_length _ _
/-- The path of leaf i, from above. -/
def pthF : Nat → List (List UInt8) → Nat → List (List UInt8)
  | 0, _, _ => []
  | f + 1, L, i => if L.length ≤ 1 then [] else if i < spl L.length then rt (L.drop (spl L.length)) :: pthF f (L.take (spl L.length)) i else rt (L.take (spl L.length)) :: pthF f (L.drop (spl L.length)) (i - spl L.length)
def pth (L : List (List UInt8)) (i : Nat) : List (List UInt8) := pthF L.length L i
theorem pthF_fuel : ∀ (f g : Nat) (L : List (List UInt8)) (i : Nat), 1 ≤ L.length → L.length ≤ 256 → L.length ≤ f → L.length ≤ g → pthF f L i = pthF g L i := by
  intro f
  induction f with
  | zero => intro g L i h1 h2 h3 h4; omega
  | succ f ih =>
    intro g L i h1 h2 h3 h4
    obtain ⟨g, rfl⟩ : ∃ k, g = k + 1 := ⟨g - 1, by omega⟩
    rw [pthF, pthF]
    split
    · rfl
    · rename_i h5
      obtain ⟨s1, s2, s3, _, _⟩ := spl_parts (n := L.length) (by omega) h2
      rw [ih g (L.take (spl L.length)) _ (by rw [List.length_take]; omega) (by rw [List.length_take]; omega) (by rw [List.length_take]; omega) (by rw [List.length_take]; omega),
        ih g (L.drop (spl L.length)) _ (by rw [List.length_drop]; omega) (by rw [List.length_drop]; omega) (by rw [List.length_drop]; omega) (by rw [List.length_drop]; omega)]
theorem pth_one {L : List (List UInt8)} (h : L.length = 1) (i : Nat) : pth L i = [] := by rw [pth, h, pthF, if_pos (by omega)]
theorem pth_two {L : List (List UInt8)} (h : 2 ≤ L.length) (h2 : L.length ≤ 256) (i : Nat) :
    pth L i = if i < spl L.length then rt (L.drop (spl L.length)) :: pth (L.take (spl L.length)) i else rt (L.take (spl L.length)) :: pth (L.drop (spl L.length)) (i - spl L.length) := by
  obtain ⟨s1, s2, s3, _, _⟩ := spl_parts h h2
  obtain ⟨f, hf⟩ : ∃ f, L.length = f + 1 := ⟨L.length - 1, by omega⟩
  have e : pth L i = pthF (f + 1) L i := by rw [pth, hf]
  rw [e, pthF, if_neg (by omega), pth, pth]
  rw [pthF_fuel f (L.take (spl L.length)).length (L.take (spl L.length)) _ (by rw [List.length_take]; omega) (by rw [List.length_take]; omega) (by rw [List.length_take]; omega) (by rw [List.length_take]; omega),
    pthF_fuel f (L.drop (spl L.length)).length (L.drop (spl L.length)) _ (by rw [List.length_drop]; omega) (by rw [List.length_drop]; omega) (by rw [List.length_drop]; omega) (by rw [List.length_drop]; omega)]
/-- The induction over the parts of a list of leaves. -/
theorem halves {Q : List (List UInt8) → Prop} (one : ∀ L, L.length = 1 → Q L) (two : ∀ L, 2 ≤ L.length → L.length ≤ 256 → Q (L.take (spl L.length)) → Q (L.drop (spl L.length)) → Q L) :
    ∀ (n : Nat) (L : List (List UInt8)), L.length ≤ n → 1 ≤ L.length → L.length ≤ 256 → Q L := by
  intro n
  induction n with
  | zero => intro L h1 h2 _; omega
  | succ n ih =>
    intro L h1 h2 h3
    by_cases h4 : L.length = 1
    · exact one L h4
    · obtain ⟨s1, s2, s3, _, _⟩ := spl_parts (n := L.length) (by omega) h3
      exact two L (by omega) h3 (ih _ (by rw [List.length_take]; omega) (by rw [List.length_take]; omega) (by rw [List.length_take]; omega)) (ih _ (by rw [List.length_drop]; omega) (by rw [List.length_drop]; omega) (by rw [List.length_drop]; omega))
theorem gR_take {L : List (List UInt8)} {i k : Nat} (h : i < k) (hk : k ≤ L.length) : gR (L.take k) i = gR L i := by
  rw [gR_eq (by rw [List.length_take]; omega), gR_eq (by omega), List.getElem_take]
theorem gR_drop {L : List (List UInt8)} {i k : Nat} (h : k ≤ i) (hk : i < L.length) : gR (L.drop k) (i - k) = gR L i := by
  rw [gR_eq (by rw [List.length_drop]; omega), gR_eq hk, List.getElem_drop]
  congr 1; omega
/-- The path leads to the root. -/
theorem up_pth {L : List (List UInt8)} (h1 : 1 ≤ L.length) (h2 : L.length ≤ 256) : ∀ i, i < L.length → upR (gR L i) i L.length (pth L i) = (rt L, true) := by
  refine halves (Q := fun L => ∀ i, i < L.length → upR (gR L i) i L.length (pth L i) = (rt L, true)) ?_ ?_ L.length L (Nat.le_refl _) h1 h2
  · intro L h i hi
    obtain rfl : i = 0 := by omega
    rw [pth_one h, upR, if_pos h, rt_one h]
  · intro L h h2 ih1 ih2 i hi
    obtain ⟨s1, s2, s3, _, _⟩ := spl_parts h h2
    rw [pth_two h h2, rt_two h h2]
    by_cases hk : i < spl L.length
    · have hl : (L.take (spl L.length)).length = spl L.length := by rw [List.length_take]; omega
      have := ih1 i (by rw [hl]; exact hk)
      rw [hl, gR_take hk (by omega)] at this
      rw [if_pos hk, upR, if_neg (by omega), if_pos hk, this]
    · have hl : (L.drop (spl L.length)).length = L.length - spl L.length := by rw [List.length_drop]
      have := ih2 (i - spl L.length) (by rw [hl]; omega)
      rw [hl, gR_drop (by omega) hi] at this
      rw [if_neg hk, upR, if_neg (by omega), if_neg hk, this]
theorem pth_sums {L : List (List UInt8)} (hv : Lv L) (h1 : 1 ≤ L.length) (h2 : L.length ≤ 256) : ∀ i, i < L.length → Lv (pth L i) := by
  refine halves (Q := fun L => Lv L → ∀ i, i < L.length → Lv (pth L i)) ?_ ?_ L.length L (Nat.le_refl _) h1 h2 hv
  · intro L h _ i hi
    rw [pth_one h]
    intro x hx; cases hx
  · intro L h h2 ih1 ih2 hv i hi
    obtain ⟨s1, s2, s3, _, _⟩ := spl_parts h h2
    rw [pth_two h h2]
    have r1 := rt_length (hv.take (spl L.length)) (by rw [List.length_take]; omega) (by rw [List.length_take]; omega)
    have r2 := rt_length (hv.drop (spl L.length)) (by rw [List.length_drop]; omega) (by rw [List.length_drop]; omega)
    by_cases hk : i < spl L.length
    · rw [if_pos hk]
      intro x hx
      rcases List.mem_cons.1 hx with rfl | hx
      · exact r2
      · exact ih1 (hv.take _) i (by rw [List.length_take]; omega) x hx
    · rw [if_neg hk]
      intro x hx
      rcases List.mem_cons.1 hx with rfl | hx
      · exact r1
      · exact ih2 (hv.drop _) _ (by rw [List.length_drop]; omega) x hx
theorem pth_length {L : List (List UInt8)} (h1 : 1 ≤ L.length) (h2 : L.length ≤ 256) : ∀ i, i < L.length → (pth L i).length ≤ L.length := by
  refine halves (Q := fun L => ∀ i, i < L.length → (pth L i).length ≤ L.length) ?_ ?_ L.length L (Nat.le_refl _) h1 h2
  · intro L h i hi
    rw [pth_one h]; exact Nat.zero_le _
  · intro L h h2 ih1 ih2 i hi
    obtain ⟨s1, s2, s3, _, _⟩ := spl_parts h h2
    rw [pth_two h h2]
    by_cases hk : i < spl L.length
    · have := ih1 i (by rw [List.length_take]; omega)
      rw [List.length_take] at this
      rw [if_pos hk, List.length_cons]; omega
    · have := ih2 (i - spl L.length) (by rw [List.length_drop]; omega)
      rw [List.length_drop] at this
      rw [if_neg hk, List.length_cons]; omega
/-- Of the leaves: n from s on. -/
def sg (L : List (List UInt8)) (s n : Nat) : List (List UInt8) := (L.drop s).take n
theorem sg_length {L : List (List UInt8)} {s n : Nat} (h : s + n ≤ L.length) : (sg L s n).length = n := by rw [sg, List.length_take, List.length_drop]; omega
theorem sg_take {L : List (List UInt8)} {s n k : Nat} (h : k ≤ n) : (sg L s n).take k = sg L s k := by rw [sg, sg, List.take_take, Nat.min_eq_left h]
theorem sg_drop {L : List (List UInt8)} {s n k : Nat} : (sg L s n).drop k = sg L (s + k) (n - k) := by rw [sg, sg, List.drop_take, List.drop_drop]
theorem sg_all {L : List (List UInt8)} : sg L 0 L.length = L := by rw [sg, List.drop_zero, List.take_length]
theorem Lv.sg {L : List (List UInt8)} (h : Lv L) (s n : Nat) : Lv (sg L s n) := (h.drop s).take n
theorem sg_split {L : List (List UInt8)} {s n : Nat} (h : s + n ≤ L.length) (h2 : 2 ≤ n) (h3 : n ≤ 256) : rt (sg L s n) = mnode (rt (sg L s (spl n))) (rt (sg L (s + spl n) (n - spl n))) := by
  have hl := sg_length h
  obtain ⟨s1, s2, s3, _, _⟩ := spl_parts h2 h3
  rw [rt_two (by rw [hl]; exact h2) (by rw [hl]; exact h3), hl, sg_take (by omega), sg_drop]
theorem sg_pth {L : List (List UInt8)} {s n : Nat} (h : s + n ≤ L.length) (h2 : 2 ≤ n) (h3 : n ≤ 256) (i : Nat) :
    pth (sg L s n) i = if i < spl n then rt (sg L (s + spl n) (n - spl n)) :: pth (sg L s (spl n)) i else rt (sg L s (spl n)) :: pth (sg L (s + spl n) (n - spl n)) (i - spl n) := by
  have hl := sg_length h
  obtain ⟨s1, s2, s3, _, _⟩ := spl_parts h2 h3
  rw [pth_two (by rw [hl]; exact h2) (by rw [hl]; exact h3), hl, sg_take (by omega), sg_drop]
end Go.Proofs.YtheijpjfpaghfaaGreatDoor
/- stock.nonces. -/
namespace Go.Proofs.YtheijpjfpaghfaaGreatDoor
open Go Go.RowKit Gf

theorem RW.of_own {w : World} {base : Nat} {te : TypeId} {s : Nat} {v : Value} {n : Nat} {l : List Value} (h : w.ownsRow base te s v n l) : RW w te s v n l ∧ ∀ b, v.ownBlock = some b → base ≤ b := by
  rcases h.2 with ⟨rfl, h0⟩ | ⟨g, cap, cur, rfl, h1, h2, h3, h4, h5, h6⟩
  · exact ⟨⟨h.1, .inl ⟨rfl, h0⟩⟩, fun b hb => by cases hb⟩
  · exact ⟨⟨h.1, .inr ⟨g, 0, cap, cur.toList, rfl, h2, h3, h4, by rw [Array.length_toList, h5]; omega, by rw [List.drop_zero]; exact h6⟩⟩, fun b hb => by cases hb; exact h1⟩
theorem At.elem {α : Type} {f : α → List Value} {s : Nat} (hf : ∀ x, (f x).length = s) {w : World} {g o : Nat} {l : List α} (h : At w g o (l.flatMap f)) {k : Nat} (hk : k < l.length) : At w g (o + k * s) (f l[k]) := by
  intro j v hj
  have hjl := (List.getElem?_eq_some_iff.1 hj).1
  have e := flat_split (f := f) l k hk
  have h1 : ((l.take k).flatMap f).length = k * s := by rw [flat_length hf, List.length_take, Nat.min_eq_left (by omega)]
  rw [Nat.add_assoc]
  refine h _ _ ?_
  rw [e, List.append_assoc, List.getElem?_append_right (by omega), h1, Nat.add_sub_cancel_left, List.getElem?_append_left hjl]
  exact hj

/-- A list of strings of the call's own. -/
def OwnS (w : World) (base : Nat) (v : Value) (n : Nat) (l : List (List UInt8)) : Prop := RW w 9 1 v n (l.map usC) ∧ ∀ b, v.ownBlock = some b → base ≤ b

theorem clone_any (w : World) (v : Value) (us : List (List UInt8)) (n : Nat) (h : RW w 9 1 v n (us.map usC)) (hn : n ≤ 100000) :
    Calls Tryz.prog 72 #[v] w fun e w' => ∃ v', e = .returned v' ∧ OwnS w' w.heap.size v' n us ∧ Below w.heap.size w w' := by
  rcases h.2 with ⟨rfl, rfl⟩ | ⟨g, o, c, cs, rfl, hb, h1, h2, h3, h4⟩
  · refine (Tryz.slices_Clone_nil 0 0 w).mono ?_
    rintro e w' ⟨rfl, rfl⟩
    exact ⟨_, rfl, ⟨h, fun b hb => by cases hb⟩, Below.refl _ _⟩
  · obtain ⟨iS, i1, i2, i3, i4⟩ := info_some infoStr
    have ha : At w g o (us.map usC) := by
      rcases Nat.eq_zero_or_pos n with h0 | h0
      · subst h0
        have hl : us.map usC = [] := List.eq_nil_of_length_eq_zero (by rw [h.1])
        rw [hl]
        intro j v hj; simp at hj
      · obtain ⟨g', o', c', e, _, hat⟩ := h.at_ h0
        cases e; exact hat
    refine (Tryz.slices_Clone iS _ 1 16 i1 i2 i3 i4 rfl (by decide) (fun w => one_size w (by kernel_rfl)) g o n c (us.map usC) w h.1 (by unfold maxLen; omega) (by omega) (fun j u hj => ha j u hj) ?_).mono ?_
    · intro u hu
      obtain ⟨x, _, rfl⟩ := List.mem_map.1 hu
      rfl
    · rintro e w' ⟨v', rfl, r1, _, r3⟩
      exact ⟨v', rfl, RW.of_own r1, r3⟩

/-- The nonces of the first k tokens behind the used ones. -/
def nonK (us : List (List UInt8)) (tk : List Sc) (k : Nat) : List (List UInt8) := us ++ (tk.take k).map (·.1)
theorem nonK_succ (us : List (List UInt8)) (tk : List Sc) (k : Nat) (h : k < tk.length) : (nonK us tk k).map usC ++ [.string (strB tk[k].1)] = (nonK us tk (k + 1)).map usC := by
  unfold nonK
  rw [List.take_succ_eq_append_getElem h, List.map_append, List.map_append, List.map_append, List.map_append, List.append_assoc]
  rfl

set_option maxRecDepth 100000 in
set_option maxHeartbeats 1000000 in
theorem nonces_any (w : World) (tv uv : Value) (tk : List Sc) (us : List (List UInt8)) (h : Stk w tv uv tk us) :
    Calls Tryz.prog 36 #[stV tv uv] w fun e w' => ∃ v', e = .returned v' ∧ OwnS w' w.heap.size v' (us.length + tk.length) (us ++ tk.map (·.1)) ∧ Below w.heap.size w w' := by
  obtain ⟨A, ct, rfl, _⟩ := h.t.form
  have HT := Lib.hid h.t
  have HU := Lib.hid h.u
  have HBT := Lib.hid h.bt
  have HBU := Lib.hid h.bu
  obtain ⟨nt, hnt⟩ : ∃ nt, nt = tk.length := ⟨_, rfl⟩
  have HN := Lib.hid hnt
  rw [← hnt] at HT HBT ⊢
  obtain ⟨nu, hnu⟩ : ∃ nu, nu = us.length := ⟨_, rfl⟩
  have HM := Lib.hid hnu
  rw [← hnu] at HU HBU ⊢
  have hn0 : 0 ≤ (nt : Int) := by omega
  have hnb : (nt : Int) ≤ 100000 := by have := HBT.out; omega
  clear h hnt hnu
  go_enter Tryz.func36, Tryz.ntmps36
  go_wp2_with (first
    | ((with_reducible show wpList _ _ _ (⟨some 1, _, _, _, _, _⟩ :: _) _ _); refine wpList_box _ rfl 80 (.tmp 0) rfl [.slice A nt ct, uv] rfl ?_; intro w1 a1 a2 a3; have HS1 := Lib.hid a1; have q1 := a1.get (j := 1) rfl; have HB1 := Lib.hid a2; clear a1 a2 a3)
    | (go_at_call 72; refine (clone_any w1 uv us nu (HU.out.kept HB1.out) HBU.out).mono ?_; rintro e w2 ⟨v2, rfl, b1, b2⟩; have HO2 := Lib.hid b1; have HB2 := Lib.hid (below_then HB1.out b2); have HS2 := Lib.hid (HS1.out.kept b2); have q0 := HS2.out.get (j := 0) rfl; clear b1 b2 q1))
  have HO2' : Hid (OwnS w2 w.heap.size v2 nu us) := Lib.hid ⟨HO2.out.1, fun b hb => Nat.le_trans HB1.out.size (HO2.out.2 b hb)⟩
  rw [show us = nonK us tk 0 by simp [nonK]] at HO2'
  go_loopw [3, 12] (fun v iv wr => ∃ k : Nat, k ≤ nt ∧ iv = .int .i64 (k : Int) ∧ Hid (OwnS wr w.heap.size v (nu + k) (nonK us tk k)) ∧ Hid (Below w.heap.size w wr)) (fun _ iv _ => nt - (intOf iv).toNat)
  case atStart => exact ⟨0, by omega, rfl, HO2', HB2⟩
  case round =>
    obtain ⟨k, hk, rfl, ho, hb⟩ := hrel
    obtain ⟨wx, hwx⟩ : ∃ x, x = wr := ⟨_, rfl⟩
    rw [← hwx] at ho hb ⊢
    clear hwx q0
    by_cases hlt : k < nt
    · obtain ⟨g, o, c, e, _, hat⟩ := HT.out.at_ (by omega)
      cases e
      have hkl : k < tk.length := by rw [← HN.out]; exact hlt
      have HAk := Lib.hid ((At.elem scC_length hat hkl).kept hb.out)
      have HSK := Lib.hid (nonK_succ us tk k hkl)
      obtain ⟨x, hx⟩ : ∃ x, x = tk[k] := ⟨_, rfl⟩
      rw [← hx] at HAk HSK
      have HBT' : Hid (nu + k + 1 ≤ 300000) := Lib.hid (by have := HBT.out; have := HBU.out; omega)
      clear hat hkl hx
      go_wp2_with (first
        | ((with_reducible show wpList _ _ _ (⟨some 15, _, _, _, _, _⟩ :: _) _ _); refine wpList_loadv _ rfl 109 (.tmp 14) rfl 2 (by kernel_rfl) g (o + k * 2) (scC x) rfl HAk.out rfl ?_)
        | ((with_reducible show wpList _ _ _ (⟨some 5, _, _, _, _, _⟩ :: _) _ _); refine wpList_alloc _ rfl 109 rfl scZ scZero ?_; intro w3 a1 a2 a3; have HV3 := Lib.hid a1; have HX3 := Lib.hid a2; clear a1 a2 a3)
        | ((with_reducible show wpList _ _ _ (⟨none, _, _, _, _, _⟩ :: _) _ _); refine wpList_storev _ rfl 109 (.tmp 5) (.tmp 15) rfl 2 (by kernel_rfl) wx.heap.size 0 _ scZ (scC x) rfl rfl HV3.out rfl (scC_one x) (by decide) ?_; intro w4 a1 a2 a3; have HV4 : Hid (BL w4 wx.heap.size 109 (scC x)) := Lib.hid a1; have r0 := HV4.out.get (j := 0) rfl; have HX4 : Hid (Below wx.heap.size wx w4) := Lib.hid (((Kp.of_below (S := fun _ => False) HX3.out).after a2 (fun i hi e => by omega)).below (Nat.le_refl _) (fun _ h => h.elim)); clear a1 a2 a3)
        | ((with_reducible show wpList _ _ _ (⟨some 19, _, _, _, _, _⟩ :: _) _ _); refine wpList_bslice _ rfl 52 9 1 _ rfl #[(0, .string (strB x.1))] (by rw [List.map_toArray]; rfl) [.string (strB x.1)] (bslS x.1 _) ?_; intro w5 a1 a2 a3; have HG5 := Lib.hid a1; have HX5 := Lib.hid (below_thenB HX4.out HX4.out.size a2); clear a1 a2 a3)
        | ((with_reducible show wpList _ _ _ (⟨some 20, _, _, _, _, _⟩ :: _) _ _); obtain ⟨iS, i1, i2, i3, i4⟩ := info_some infoStr; refine wpList_appRW _ rfl (.tmp 16) (.tmp 19) 52 9 1 iS _ rfl Tryz.underlying52 i1 i2 i3 rfl _ (nu + k) _ rfl (ho.out.1.kept HX5.out) w4.heap.size [.string (strB x.1)] rfl HG5.out rfl (by intro v hv; simp only [List.mem_singleton] at hv; subst hv; rfl) (by rw [i4]; have := HBT'.out; omega) (by have := HBT'.out; omega) ?_; intro v' w6 a1; have HR6 := Lib.hid a1; clear a1 i1 i2 i3 i4))
      have HB5 : Hid (Below w.heap.size w w5) := Lib.hid (below_thenB hb.out hb.out.size HX5.out)
      have HB6 : Hid (Below w.heap.size w w6) := Lib.hid (((Kp.of_below (S := fun _ => False) HB5.out).after HR6.out.kp (fun i hi e => by have := ho.out.2 i e; omega)).below (Nat.le_refl _) (fun _ h => h.elim))
      have HO6 : Hid (OwnS w6 w.heap.size v' (nu + (k + 1)) (nonK us tk (k + 1))) := Lib.hid ⟨by
          have := HR6.out.row
          rw [HSK.out] at this
          exact this, fun b hb' => (HR6.out.own b hb').elim (fun h1 => ho.out.2 b h1) (fun h1 => Nat.le_trans HB5.out.size h1)⟩
      go_roundw
      case rel => exact ⟨k + 1, by omega, by go_num, HO6, HB6⟩
      case measure => simp [intOf]; omega
    · obtain rfl : k = nt := by omega
      go_wp2_with fail
      go_ret
      refine ⟨_, rfl, ?_, hb.out⟩
      have := ho.out
      rw [show nonK us tk k = us ++ tk.map (·.1) by unfold nonK; rw [HN.out, List.take_length]] at this
      exact this
end Go.Proofs.YtheijpjfpaghfaaGreatDoor
/- merkle.Blocks and the reference's: the leaves of the blocks of data. -/
namespace Go.Proofs.YtheijpjfpaghfaaGreatDoor
open Go Go.RowKit Gf Sha

/-- Block i of data. -/
def blk (x : List UInt8) (size i : Nat) : List UInt8 := (x.drop (i * size)).take size
def lvsK (x : List UInt8) (size k : Nat) : List (List UInt8) := (List.range k).map fun i => mleaf (blk x size i)
/-- The number of blocks. -/
def nb (n size : Nat) : Nat := (n - 1) / size + 1
theorem nb_lt {n size k : Nat} (h1 : 1 ≤ n) (hs : 1 ≤ size) : k < nb n size ↔ k * size < n := by
  unfold nb
  rw [Nat.lt_succ_iff, Nat.le_div_iff_mul_le (by omega)]
  omega
theorem lvsK_length (x : List UInt8) (size k : Nat) : (lvsK x size k).length = k := by simp [lvsK]
theorem lvsK_succ (x : List UInt8) (size k : Nat) : lvsK x size (k + 1) = lvsK x size k ++ [mleaf (blk x size k)] := by
  rw [lvsK, List.range_succ, List.map_append]; rfl
theorem lvsK_get {x : List UInt8} {size q k : Nat} (h : k < q) : gR (lvsK x size q) k = mleaf (blk x size k) := by
  rw [gR_eq (by rw [lvsK_length]; exact h)]; simp [lvsK]
theorem lvsK_lv (x : List UInt8) (size q : Nat) : Lv (lvsK x size q) := by
  intro y hy
  simp only [lvsK, List.mem_map] at hy
  obtain ⟨i, _, rfl⟩ := hy
  exact mleaf_length _
theorem take_min_drop {x : List UInt8} {a size m mm : Nat} (hm : (x.drop a).length = m) (h : mm = min size m) : (x.drop a).take mm = (x.drop a).take size := by
  rw [h, List.take_eq_take_iff]; omega
theorem drop_min_drop {x : List UInt8} {k size m mm : Nat} (hm : (x.drop (k * size)).length = m) (h : mm = min size m) : (x.drop (k * size)).drop mm = x.drop ((k + 1) * size) := by
  rw [List.drop_drop]
  rw [List.length_drop] at hm
  rw [Nat.succ_mul]
  by_cases h2 : size ≤ m
  · rw [h, Nat.min_eq_left h2]
  · rw [List.drop_eq_nil_of_le (by omega), List.drop_eq_nil_of_le (by omega)]
theorem bsl0S (w : World) : (Instr.buildSlice 52 0 #[]).run Tryz.prog w = .ok (.slice (some ⟨w.heap.size, 0, none⟩) 0 0) (w.alloc (.cells ([] : List Value).toArray 9)) := by kernel_rfl

end Go.Proofs.YtheijpjfpaghfaaGreatDoor
