/- Several texts in one: Sha3, Sha4, Ari. -/
import Derived.Test.YtgjgofjabdjclaaDoorA4
import Derived.Test.YtgjgofjabdjclaaDoorA3
/- A sum in progress: what the words, the buffer and the length say of the bytes so far. No program in sight. -/
namespace Go.Proofs.YtgjgofjabdjclaaDoor
open Go Go.RowKit Gf

namespace Sha
theorem hk_append (l x : List UInt8) (k : Nat) (h : 64 * k ≤ l.length) : hk k (l ++ x) = hk k l := by
  induction k with
  | zero => rfl
  | succ k ih =>
    rw [hk, hk, ih (by omega), List.drop_append_of_le_length (by omega), List.take_append_of_le_length (by simp; omega)]
theorem hs_append (l x : List UInt8) (h : (l ++ x).length / 64 = l.length / 64) : hs (l ++ x) = hs l := by
  rw [hs, hs, h, hk_append l x _ (by omega)]
/-- A block more. -/
theorem hs_block (l x : List UInt8) (h : l.length % 64 = 0) (hx : x.length = 64) : hs (l ++ x) = comp (hs l) x := by
  have e : (l ++ x).length / 64 = l.length / 64 + 1 := by simp; omega
  have e2 : 64 * (l.length / 64) = l.length := by omega
  rw [hs, hs, e, hk, hk_append l x _ (by omega), e2, List.drop_append_of_le_length (Nat.le_refl _), List.drop_length, List.nil_append, List.take_of_length_le (by omega)]
/-- The last block is filled up. -/
theorem hs_fill (l x : List UInt8) (hx : l.length % 64 + x.length = 64) : hs (l ++ x) = comp (hs l) (l.drop (64 * (l.length / 64)) ++ x) := by
  have e : (l ++ x).length / 64 = l.length / 64 + 1 := by simp; omega
  rw [hs, hs, e, hk, hk_append l x _ (by omega), List.drop_append_of_le_length (by omega), List.take_of_length_le (by simp; omega)]

/-- The cells of a sum in progress. -/
def stv (s : St) (buf : List UInt8) (n : Nat) (rest : List Value) : List Value := s.cells ++ (buf.map B ++ (.int .i64 (n : Int) :: rest))
/-- The tail of l that is no whole block. -/
def tl64 (l : List UInt8) : List UInt8 := l.drop (64 * (l.length / 64))
theorem tl64_length (l : List UInt8) : (tl64 l).length = l.length % 64 := by simp [tl64]; omega
/-- Block g holds a sum in progress of l, and rest behind it. -/
def Hs (w : World) (g : Nat) (t : TypeId) (rest : List Value) (l : List UInt8) : Prop :=
  ∃ buf : List UInt8, buf.length = 64 ∧ BL w g t (stv (hs l) buf l.length rest) ∧ buf.take (l.length % 64) = tl64 l

theorem stv_len (s : St) (buf : List UInt8) (n : Nat) (rest : List Value) (h : buf.length = 64) : (stv s buf n rest)[72]? = some (.int .i64 (n : Int)) := by
  unfold stv
  rw [List.getElem?_append_right (by rw [cells_length]; omega), cells_length, List.getElem?_append_right (by simp [h])]
  simp [h]
theorem stv_length (s : St) (buf : List UInt8) (n : Nat) (rest : List Value) (h : buf.length = 64) : (stv s buf n rest).length = 73 + rest.length := by
  simp [stv, cells_length, h]; omega
theorem stv_setlen (s : St) (buf : List UInt8) (n m : Nat) (rest : List Value) (h : buf.length = 64) : (stv s buf n rest).set 72 (.int .i64 (m : Int)) = stv s buf m rest := by
  unfold stv
  rw [List.set_append, if_neg (by rw [cells_length]; omega), cells_length, List.set_append, if_neg (by simp [h])]
  simp [h]
/-- Bytes laid into the buffer. -/
def bufw (buf : List UInt8) (u : Nat) (x : List UInt8) : List UInt8 := buf.take u ++ x ++ buf.drop (u + x.length)
theorem bufw_length (buf : List UInt8) (u : Nat) (x : List UInt8) (h : buf.length = 64) (hx : u + x.length ≤ 64) : (bufw buf u x).length = 64 := by
  simp [bufw, h]; omega
theorem stv_splice (s : St) (buf : List UInt8) (n u : Nat) (x : List UInt8) (rest : List Value) (h : buf.length = 64) (hx : u + x.length ≤ 64) :
    splice (stv s buf n rest) (8 + u) (x.map B) = stv s (bufw buf u x) n rest := by
  unfold splice stv bufw
  have e1 : (s.cells ++ (buf.map B ++ (.int .i64 (n : Int) :: rest))).take (8 + u) = s.cells ++ (buf.take u).map B := by
    rw [List.take_append, cells_length, List.take_of_length_le (by rw [cells_length]; omega), show 8 + u - 8 = u by omega, List.take_append_of_le_length (by simp [h]; omega), List.map_take]
  have e2 : (s.cells ++ (buf.map B ++ (.int .i64 (n : Int) :: rest))).drop (8 + u + (x.map B).length) = (buf.drop (u + x.length)).map B ++ (.int .i64 (n : Int) :: rest) := by
    rw [List.length_map, List.drop_append, cells_length, List.drop_eq_nil_of_le (by rw [cells_length]; omega), List.nil_append, show 8 + u + x.length - 8 = u + x.length by omega, List.drop_append_of_le_length (by simp [h]; omega), List.map_drop]
  rw [e1, e2]
  simp
theorem bufw_take (buf : List UInt8) (u : Nat) (x : List UInt8) (h : buf.length = 64) (hx : u + x.length ≤ 64) : (bufw buf u x).take (u + x.length) = buf.take u ++ x := by
  unfold bufw
  rw [List.take_append_of_le_length (by simp [h]; omega), List.take_of_length_le (by simp [h]; omega)]
theorem bufw_full (buf : List UInt8) (u : Nat) (x : List UInt8) (h : buf.length = 64) (hx : u + x.length = 64) : bufw buf u x = buf.take u ++ x := by
  rw [← bufw_take buf u x h (by omega), List.take_of_length_le (by rw [bufw_length buf u x h (by omega)]; omega)]
theorem stv_cells (s : St) (buf : List UInt8) (n : Nat) (rest : List Value) : stv s buf n rest = s.cells ++ (buf.map B ++ (.int .i64 (n : Int) :: rest)) := rfl

theorem BL.buf {w : World} {g : Nat} {t : TypeId} {s : St} {buf : List UInt8} {n : Nat} {rest : List Value} (hb : BL w g t (stv s buf n rest)) (h : buf.length = 64) : BS w (some ⟨g, 8, none⟩) 64 64 buf :=
  ⟨h, Nat.le_refl _, by decide, fun k hk => ⟨g, 8, rfl, hb.get (by
    unfold stv
    rw [List.getElem?_append_right (by rw [cells_length]; omega), cells_length, show 8 + k - 8 = k by omega, List.getElem?_append_left (by simp [h, hk])]
    rw [List.getElem?_map, List.getElem?_eq_getElem (by rw [h]; exact hk)]
    show some (B _) = some (B (gB buf k))
    rw [gB_eq (by rw [h]; exact hk)])⟩⟩

section
variable {w w' : World} {g : Nat} {t : TypeId} {rest : List Value} {l : List UInt8}
theorem Hs.kept (h : Hs w g t rest l) (hb : Below w.heap.size w w') : Hs w' g t rest l := let ⟨b, h1, h2, h3⟩ := h; ⟨b, h1, h2.kept hb, h3⟩
theorem Hs.kp {S : Nat → Prop} (h : Hs w g t rest l) (hb : Kp S w w') (hn : ¬ S g) : Hs w' g t rest l := let ⟨b, h1, h2, h3⟩ := h; ⟨b, h1, h2.kp hb hn, h3⟩
theorem Hs.drew (h : Hs w g t rest l) : Hs w.drew g t rest l := h
theorem Hs.lt (h : Hs w g t rest l) : g < w.heap.size := let ⟨_, _, h2, _⟩ := h; h2.lt
end
theorem tl64_append (l x : List UInt8) (h : (l ++ x).length / 64 = l.length / 64) : tl64 (l ++ x) = tl64 l ++ x := by
  unfold tl64
  rw [h, List.drop_append_of_le_length (by omega)]
theorem tl64_zero (l : List UInt8) (h : l.length % 64 = 0) : tl64 l = [] := List.eq_nil_of_length_eq_zero (by rw [tl64_length, h])
end Sha
end Go.Proofs.YtgjgofjabdjclaaDoor
/- The padding of SHA-256 as the program makes it. No program in sight. -/
namespace Go.Proofs.YtgjgofjabdjclaaDoor
open Go Go.RowKit Gf

namespace Sha
/-- How many zeros. -/
def zr (n : Nat) : Nat := (119 - n % 64) % 64
/-- After the 128, k zeros. -/
def padz (k : Nat) : List UInt8 := (128 : UInt8) :: List.replicate k 0
theorem padz_length (k : Nat) : (padz k).length = k + 1 := by simp [padz]
theorem padz_succ (k : Nat) : padz k ++ [0] = padz (k + 1) := by
  simp only [padz, List.cons_append]; rw [List.replicate_succ']
/-- Byte i of the count. -/
def cb (n i : Nat) : UInt8 := UInt8.ofNat ((n * 8) >>> (56 - 8 * i))
/-- .. and i bytes of the count. -/
def padc (n i : Nat) : List UInt8 := padz (zr n) ++ (List.range i).map (cb n)
theorem padc_zero (n : Nat) : padc n 0 = padz (zr n) := by simp [padc]
theorem padc_succ (n i : Nat) : padc n i ++ [cb n i] = padc n (i + 1) := by
  rw [padc, padc, List.range_succ, List.map_append, List.append_assoc]; rfl
theorem padc_length (n i : Nat) : (padc n i).length = zr n + 1 + i := by simp [padc, padz_length]
theorem padding_padc (n : Nat) : padding n = padc n 8 := by
  simp only [padding, padc, padz, be8, List.cons_append]; rfl
theorem zr_spec (n k : Nat) (h : k < zr n) : (n + (k + 1)) % 64 ≠ 56 := by unfold zr at h; omega
theorem zr_end (n : Nat) : (n + (zr n + 1)) % 64 = 56 := by unfold zr; omega
theorem zr_lt (n : Nat) : zr n < 64 := by unfold zr; omega
/-- The bytes of the first k words. -/
def outb (s : St) : Nat → List UInt8
  | 0 => []
  | k + 1 => outb s k ++ bytes4 (sw s k)
theorem outb_length (s : St) (k : Nat) : (outb s k).length = 4 * k := by
  induction k with
  | zero => rfl
  | succ k ih => rw [outb, List.length_append, ih]; show 4 * k + 4 = _; omega
theorem outb_all (s : St) : outb s 8 = s.bytes := rfl
theorem sha_length (l : List UInt8) : (sha l).length = 32 := rfl
/-- The bytes of a word as the walk spells them. -/
theorem conv_b (x : UInt32) : IntKind.u8.wrap (wv x) = bv x.toUInt8 := by
  unfold wv bv
  show (x.toNat : Int) % 256 = _
  rw [UInt32.toNat_toUInt8]
  omega
theorem sh24 (x : UInt32) : wv x / (16777216 : Int) = wv (x >>> 24) := shr_w x 24 (by decide)
theorem sh16 (x : UInt32) : wv x / (65536 : Int) = wv (x >>> 16) := shr_w x 16 (by decide)
theorem sh8 (x : UInt32) : wv x / (256 : Int) = wv (x >>> 8) := shr_w x 8 (by decide)
theorem cb_val (n i : Nat) : ((n : Int) * 8 / 2 ^ (56 - 8 * i)) % 256 = bv (cb n i) := by
  unfold bv cb
  rw [UInt8.toNat_ofNat', Nat.shiftRight_eq_div_pow, Int.natCast_emod, Int.natCast_ediv, Int.natCast_mul, Int.natCast_pow]
  rfl
end Sha
end Go.Proofs.YtgjgofjabdjclaaDoor
/- Operations on unsigned 64-bit numbers that are casts of naturals, as laws at the operation. Proved for any program. -/
namespace Go.Proofs.YtgjgofjabdjclaaDoor
open Go Go.RowKit Gf

section
variable {P : Program} (w : World) {ops : Array Oper} {rest : List Oper} {o : Oper} {a : Act} {Q : Exit → Act → World → Prop}
/-- x >> s. -/
theorem wpList_shrN (hg : o.guard = none) (x y : Operand) (t t2 : TypeId) (hop : o.op = .binOp .shr t x y t2) (ky : IntKind) (X s : Nat) (zx zy : Int) (hx : a.eval x = .int .u64 zx) (hy : a.eval y = .int ky zy) (hX : zx = (X : Int)) (hs : zy = (s : Int)) (hs64 : s ≤ 64)
    (h : wpList P ops Q rest (a.put o.dst (.int .u64 ((X >>> s : Nat) : Int))) w) : wpList P ops Q (o :: rest) a w :=
  wpList_plain hg fun K hK => by
    subst hX hs
    have e : (((X >>> s : Nat) : Int)) = (X : Int) / 2 ^ s := by
      rw [Nat.shiftRight_eq_div_pow, Int.natCast_ediv, Int.natCast_pow]; rfl
    rw [e] at h
    unfold Oper.wp execOp
    simp only [hop, hx, hy, binOp, Sem.run_bind]
    simp [eqGuard, Result.andThen]
    exact hK _ _ h
/-- byte(x). -/
theorem wpList_u8N (hg : o.guard = none) (x : Operand) (t t2 : TypeId) (hop : o.op = .convert t t2 x) (d : TypeDesc) (k : IntKind) (ht : P.underlying t = some d) (ht2 : P.underlying t2 = some (.int .u8)) (X : Nat) (zx : Int) (hx : a.eval x = .int k zx) (hX : zx = (X : Int))
    (h : wpList P ops Q rest (a.put o.dst (B (UInt8.ofNat X))) w) : wpList P ops Q (o :: rest) a w :=
  wpList_plain hg fun K hK => by
    subst hX
    have e : IntKind.u8.wrap (X : Int) = bv (UInt8.ofNat X) := by
      show (X : Int) % 256 = _
      unfold bv
      rw [UInt8.toNat_ofNat', Int.natCast_emod]; rfl
    unfold Oper.wp execOp
    simp only [hop, hx]
    simp [convert, run_underlying ht, run_underlying ht2, Conv.intToInt, Result.andThen, e]
    exact hK _ _ h
end
end Go.Proofs.YtgjgofjabdjclaaDoor
