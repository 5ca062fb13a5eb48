/- Several texts in one: Ari, Ari2, Slc, Uv, Rnu, G7, Ea. -/
import Derived.Test.YtfonbliomokffaaGreatC1
import Derived.Test.YtfonbliomokffaaGreatC3
import Derived.Lib.Hide
import Derived.StillTailTactics
import Derived.Test.YtfonbliomokffaaGreatC2
import Derived.LoopTactic
import Derived.Deep.QuietTactic
import Derived.BigQuiet
import Derived.OwnWalk
import Derived.IntWalk
import Derived.Deep.LoopGhost
/- Operations on unsigned 64-bit numbers that are casts of naturals, as laws at the operation. Proved for any program. -/
namespace Go.Proofs.YtfonbliomokffaaGreat
open Go Go.RowKit Gf

section
variable {P : Program} (w : World) {ops : Array Oper} {rest : List Oper} {o : Oper} {a : Act} {Q : Exit → Act → World → Prop}
/-- x >> s. -/
theorem wpList_shrN (hg : o.guard = none) (x y : Operand) (t t2 : TypeId) (hop : o.op = .binOp .shr t x y t2) (ky : IntKind) (X s : Nat) (zx zy : Int) (hx : a.eval x = .int .u64 zx) (hy : a.eval y = .int ky zy) (hX : zx = (X : Int)) (hs : zy = (s : Int)) (hs64 : s ≤ 64)
    (h : wpList P ops Q rest (a.put o.dst (.int .u64 ((X >>> s : Nat) : Int))) w) : wpList P ops Q (o :: rest) a w :=
  wpList_plain hg fun K hK => by
    subst hX hs
    have e : (((X >>> s : Nat) : Int)) = (X : Int) / 2 ^ s := by
      rw [Nat.shiftRight_eq_div_pow, Int.natCast_ediv, Int.natCast_pow]; rfl
    rw [e] at h
    unfold Oper.wp execOp
    simp only [hop, hx, hy, binOp, Sem.run_bind]
    simp [eqGuard, Result.andThen]
    exact hK _ _ h
/-- byte(x). -/
theorem wpList_u8N (hg : o.guard = none) (x : Operand) (t t2 : TypeId) (hop : o.op = .convert t t2 x) (d : TypeDesc) (k : IntKind) (ht : P.underlying t = some d) (ht2 : P.underlying t2 = some (.int .u8)) (X : Nat) (zx : Int) (hx : a.eval x = .int k zx) (hX : zx = (X : Int))
    (h : wpList P ops Q rest (a.put o.dst (B (UInt8.ofNat X))) w) : wpList P ops Q (o :: rest) a w :=
  wpList_plain hg fun K hK => by
    subst hX
    have e : IntKind.u8.wrap (X : Int) = bv (UInt8.ofNat X) := by
      show (X : Int) % 256 = _
      unfold bv
      rw [UInt8.toNat_ofNat', Int.natCast_emod]; rfl
    unfold Oper.wp execOp
    simp only [hop, hx]
    simp [convert, run_underlying ht, run_underlying ht2, Conv.intToInt, Result.andThen, e]
    exact hK _ _ h
end
end Go.Proofs.YtfonbliomokffaaGreat
/- More operations on numbers that are casts of naturals; a byte of a string. Proved for any program. -/
namespace Go.Proofs.YtfonbliomokffaaGreat
open Go Go.RowKit Gf

section
variable {P : Program} (w : World) {ops : Array Oper} {rest : List Oper} {o : Oper} {a : Act} {Q : Exit → Act → World → Prop}
theorem wrapU (n : Nat) (h : n < 18446744073709551616) : IntKind.u64.wrap (n : Int) = (n : Int) := by
  show (n : Int) % 18446744073709551616 = _; omega
/-- x << s. -/
theorem wpList_shlN (hg : o.guard = none) (x y : Operand) (t t2 : TypeId) (hop : o.op = .binOp .shl t x y t2) (ky : IntKind) (X s : Nat) (zx zy : Int) (hx : a.eval x = .int .u64 zx) (hy : a.eval y = .int ky zy) (hX : zx = (X : Int)) (hs : zy = (s : Int)) (hs64 : s ≤ 64) (hb : X * 2 ^ s < 18446744073709551616)
    (h : wpList P ops Q rest (a.put o.dst (.int .u64 ((X * 2 ^ s : Nat) : Int))) w) : wpList P ops Q (o :: rest) a w :=
  wpList_plain hg fun K hK => by
    subst hX hs
    have e : ∀ w', (binOp .shl t (.int .u64 (X : Int)) (.int ky (s : Int))).run P w' = .ok (.int .u64 ((X * 2 ^ s : Nat) : Int)) w' := fun w' => by
      have e3 : (X : Int) * 2 ^ min (s : Int).toNat IntKind.u64.bits = ((X * 2 ^ s : Nat) : Int) := by
        rw [Int.toNat_natCast, Nat.min_eq_left (by show s ≤ 64; exact hs64), Int.natCast_mul, Int.natCast_pow]; rfl
      show (Op.shift .shl .u64 (X : Int) ky (s : Int)).run P w' = _
      unfold Op.shift
      rw [if_neg (by omega)]
      show Result.ok (Value.int IntKind.u64 (IntKind.u64.wrap _)) w' = _
      rw [e3, wrapU _ hb]
    unfold Oper.wp execOp
    simp only [hop, hx, hy]
    simp [eqGuard, Result.andThen, e]
    exact hK _ _ (by simpa using h)
/-- x | y. -/
theorem wpList_orN (hg : o.guard = none) (x y : Operand) (t t2 : TypeId) (hop : o.op = .binOp .or t x y t2) (X Y : Nat) (zx zy : Int) (hx : a.eval x = .int .u64 zx) (hy : a.eval y = .int .u64 zy) (hX : zx = (X : Int)) (hY : zy = (Y : Int)) (hXb : X < 18446744073709551616) (hYb : Y < 18446744073709551616)
    (h : wpList P ops Q rest (a.put o.dst (.int .u64 ((X ||| Y : Nat) : Int))) w) : wpList P ops Q (o :: rest) a w :=
  wpList_plain hg fun K hK => by
    subst hX hY
    have e : ∀ w', (binOp .or t (.int .u64 (X : Int)) (.int .u64 (Y : Int))).run P w' = .ok (.int .u64 ((X ||| Y : Nat) : Int)) w' := fun w' => by
      have e2 := u64_or_nat X Y hXb hYb
      show Result.ok (Value.int IntKind.u64 (bits .or .u64 (X : Int) (Y : Int))) w' = _
      rw [e2]
    unfold Oper.wp execOp
    simp only [hop, hx, hy]
    simp [eqGuard, Result.andThen, e]
    exact hK _ _ (by simpa using h)
/-- x % y. -/
theorem wpList_remN (hg : o.guard = none) (x y : Operand) (t t2 : TypeId) (hop : o.op = .binOp .rem t x y t2) (X Y : Nat) (zx zy : Int) (hx : a.eval x = .int .u64 zx) (hy : a.eval y = .int .u64 zy) (hX : zx = (X : Int)) (hY : zy = (Y : Int)) (hY0 : 0 < Y)
    (h : wpList P ops Q rest (a.put o.dst (.int .u64 ((X % Y : Nat) : Int))) w) : wpList P ops Q (o :: rest) a w :=
  wpList_plain hg fun K hK => by
    subst hX hY
    have e : ∀ w', (binOp .rem t (.int .u64 (X : Int)) (.int .u64 (Y : Int))).run P w' = .ok (.int .u64 ((X % Y : Nat) : Int)) w' := fun w' => by
      have hne : ¬ Y = 0 := by omega
      show (Op.intDiv .rem .u64 (X : Int) (Y : Int)).run P w' = _
      unfold Op.intDiv
      simp [hne]
      exact Int.tmod_eq_emod_of_nonneg (by omega)
    unfold Oper.wp execOp
    simp only [hop, hx, hy]
    simp [eqGuard, Result.andThen, e]
    exact hK _ _ (by simpa using h)
/-- A number in another kind that holds it. -/
theorem wpList_convN (hg : o.guard = none) (x : Operand) (t t2 : TypeId) (hop : o.op = .convert t t2 x) (d : TypeDesc) (k k2 : IntKind) (ht : P.underlying t = some d) (ht2 : P.underlying t2 = some (.int k2)) (X : Nat) (zx : Int) (hx : a.eval x = .int k zx) (hX : zx = (X : Int)) (hw : k2.wrap (X : Int) = (X : Int))
    (h : wpList P ops Q rest (a.put o.dst (.int k2 (X : Int))) w) : wpList P ops Q (o :: rest) a w :=
  wpList_plain hg fun K hK => by
    subst hX
    unfold Oper.wp execOp
    simp only [hop, hx]
    simp [convert, run_underlying ht, run_underlying ht2, Conv.intToInt, Result.andThen, hw]
    exact hK _ _ h
/-- s[k]. -/
theorem wpList_idxS (hg : o.guard = none) (x y : Operand) (t : TypeId) (hop : o.op = .index t x y) (ht : P.underlying t = some .string) (l : List UInt8) (k : Nat) (zy : Int) (hx : a.eval x = .string (strB l)) (hy : a.eval y = .int .i64 zy) (hz : zy = (k : Int)) (hk : k < l.length)
    (h : wpList P ops Q rest (a.put o.dst (B (gB l k))) w) : wpList P ops Q (o :: rest) a w :=
  wpList_plain hg fun K hK => by
    subst hz
    have e : (strB l)[k]? = some (gB l k) := by
      have h1 : k < (strB l).size := hk
      rw [getElem?_pos (strB l) k h1, gB_eq hk]
      rfl
    unfold Oper.wp execOp
    simp only [hop, hx, hy]
    have hr : (Instr.index t (.string (strB l)) (.int .i64 (k : Int))).run P w = .ok (B (gB l k)) w := by
      unfold Instr.index
      rw [Sem.run_bind]
      simp only [asIntOf, Sem.run_pure, Result.andThen_ok, Sem.run_bind, run_underlying ht]
      rw [if_pos (by omega), Int.toNat_natCast, e]
      rfl
    simp [hr, Result.andThen]
    exact hK _ _ h
end
/-- A number out of bytes, the greatest first. -/
def beN (l : List UInt8) : Nat := l.foldl (fun v b => v * 256 + b.toNat) 0
theorem beN_snoc (l : List UInt8) (b : UInt8) : beN (l ++ [b]) = beN l * 256 + b.toNat := by simp [beN]
theorem beN_lt' (l : List UInt8) : ∀ v, l.foldl (fun v b => v * 256 + b.toNat) v < (v + 1) * 256 ^ l.length := by
  induction l with
  | nil => intro v; simp
  | cons b l ih =>
    intro v
    have h1 := ih (v * 256 + b.toNat)
    have h2 := b.toNat_lt
    rw [List.foldl_cons, List.length_cons, Nat.pow_succ]
    refine Nat.lt_of_lt_of_le h1 ?_
    rw [Nat.mul_comm (256 ^ l.length) 256, ← Nat.mul_assoc]
    exact Nat.mul_le_mul_right _ (by omega)
theorem beN_lt (l : List UInt8) : beN l < 256 ^ l.length := by
  have := beN_lt' l 0
  simpa [beN] using this
theorem or_low (x y : Nat) (h : y < 256) : x * 256 ||| y = x * 256 + y := by
  rw [Nat.mul_comm]
  exact (Nat.two_pow_add_eq_or_of_lt (i := 8) (by simpa using h) x).symm
end Go.Proofs.YtfonbliomokffaaGreat
/- x[k:], x[:k] of byte slices and of arrays of bytes, as laws at the operation. Proved for any program. -/
namespace Go.Proofs.YtfonbliomokffaaGreat
open Go Go.RowKit Gf

/-- The address of x[k:]. -/
def cutA (A : Option Addr) (c k : Nat) : Option Addr := if c = k then A else A.map (·.add k)
/-- The bytes lie in no block of S. -/
def FarB (A : Option Addr) (n : Nat) (S : Nat → Prop) : Prop := ∀ g o, 0 < n → A = some ⟨g, o, none⟩ → ¬ S g
theorem BS.kpf {w w' : World} {A : Option Addr} {n c : Nat} {l : List UInt8} {S : Nat → Prop} (h : BS w A n c l) (hk : Kp S w w') (hf : FarB A n S) : BS w' A n c l :=
  ⟨h.1, h.2.1, h.2.2.1, fun k hk2 => by
    obtain ⟨g, o, e, hc⟩ := h.2.2.2 k hk2
    exact ⟨g, o, e, hk.cell hc (hf g o (by omega) e)⟩⟩
theorem FarB.cut {w : World} {A : Option Addr} {n c : Nat} {l : List UInt8} {S : Nat → Prop} (h : BS w A n c l) (hf : FarB A n S) {k : Nat} (hk : k ≤ n) : FarB (cutA A c k) (n - k) S := by
  intro g o hn e
  have h2 := h.2.1
  obtain ⟨g0, o0, rfl, _⟩ := h.2.2.2 0 (by omega)
  unfold cutA at e
  rw [if_neg (by omega), Option.map_some, addr_add] at e
  cases e
  exact hf _ _ (by omega) rfl
theorem FarB.pre {A : Option Addr} {n : Nat} {S : Nat → Prop} (hf : FarB A n S) {k : Nat} (hk : k ≤ n) : FarB A k S := fun g o hn e => hf g o (by omega) e
/-- What is old lies in no new block. -/
theorem BS.far_new {w : World} {A : Option Addr} {n c : Nat} {l : List UInt8} (h : BS w A n c l) {S : Nat → Prop} (hS : ∀ k, S k → w.heap.size ≤ k) : FarB A n S := fun g o hn e hs => by
  obtain ⟨g0, o0, e0, hc⟩ := h.2.2.2 0 hn
  rw [e] at e0
  cases e0
  have h1 := cell_lt hc
  have h2 := hS g hs
  simp at h1
  omega
theorem BS.cut {w : World} {A : Option Addr} {n c : Nat} {l : List UInt8} (h : BS w A n c l) {k : Nat} (hk : k ≤ n) : BS w (cutA A c k) (n - k) (c - k) (l.drop k) := by
  obtain ⟨h1, h2, h3, h4⟩ := h
  refine ⟨by simp [h1], by omega, by omega, fun j hj => ?_⟩
  obtain ⟨g, o, rfl, hc⟩ := h4 (k + j) (by omega)
  refine ⟨g, o + k, ?_, ?_⟩
  · unfold cutA
    rw [if_neg (by omega), Option.map_some, addr_add]
  · rw [Nat.add_assoc, hc]
    show some (B (gB l (k + j))) = some (B (gB (l.drop k) j))
    rw [gB, gB, List.getD_eq_getElem?_getD, List.getD_eq_getElem?_getD, List.getElem?_drop]
theorem BS.pre {w : World} {A : Option Addr} {n c : Nat} {l : List UInt8} (h : BS w A n c l) {k : Nat} (hk : k ≤ n) : BS w A k c (l.take k) := by
  obtain ⟨h1, h2, h3, h4⟩ := h
  refine ⟨by simp [h1]; omega, by omega, by omega, fun j hj => ?_⟩
  obtain ⟨g, o, rfl, hc⟩ := h4 j (by omega)
  refine ⟨g, o, rfl, ?_⟩
  rw [hc]
  show some (B (gB l j)) = some (B (gB (l.take k) j))
  rw [gB, gB, List.getD_eq_getElem?_getD, List.getD_eq_getElem?_getD, List.getElem?_take_of_lt hj]

section
variable {P : Program} (w : World) {ops : Array Oper} {rest : List Oper} {o : Oper} {a : Act} {Q : Exit → Act → World → Prop}

theorem one_size {te : TypeId} (hsz : (match P.info? te with | some i => i.size == 1 | none => false) = true) : (sizeOf te).run P w = .ok 1 w := by
  cases hi : P.info? te with
  | none => simp [hi] at hsz
  | some i => simp [hi] at hsz; simp [sizeOf, typeInfo, hi, hsz]

/-- x[k:] of a slice of one-cell elements. -/
theorem wpList_cut (hg : o.guard = none) (s lo : Operand) (ty te : TypeId) (hop : o.op = .slice ty s (some lo) none none) (hu : P.underlying ty = some (.slice te)) (hsz : (match P.info? te with | some i => i.size == 1 | none => false) = true)
    (A : Option Addr) (n c k : Nat) (z : Int) (hs : a.eval s = .slice A n c) (hlo : a.eval lo = .int .i64 z) (hz : z = (k : Int)) (hk : k ≤ n)
    (h : wpList P ops Q rest (a.put o.dst (.slice (cutA A c k) (n - k) (c - k))) w) : wpList P ops Q (o :: rest) a w :=
  wpList_plain hg fun K hK => by
    subst hz
    have h2 := one_size (P := P) w hsz
    unfold Oper.wp execOp
    simp only [hop, Option.map_some, Option.map_none, hs, hlo]
    simp [Instr.sliceAt, Instr.slice, run_underlying hu, Instr.sliceBounds, Instr.sliceBound, asIntOf, hk, h2, Result.andThen]
    exact hK _ _ h

/-- p[k:] of a pointer to an array of one-cell elements. -/
theorem wpList_cutarr (hg : o.guard = none) (s lo : Operand) (ty te : TypeId) (m : Nat) (hop : o.op = .slice ty s (some lo) none none) (hu : P.underlying ty = some (.array m te)) (hsz : (match P.info? te with | some i => i.size == 1 | none => false) = true)
    (g p k : Nat) (z : Int) (hs : a.eval s = .pointer (some ⟨g, p, none⟩)) (hlo : a.eval lo = .int .i64 z) (hz : z = (k : Int)) (hk : k < m)
    (h : wpList P ops Q rest (a.put o.dst (.slice (some ⟨g, p + k, none⟩) (m - k) (m - k))) w) : wpList P ops Q (o :: rest) a w :=
  wpList_plain hg fun K hK => by
    subst hz
    have h2 := one_size (P := P) w hsz
    unfold Oper.wp execOp
    simp only [hop, Option.map_some, Option.map_none, hs, hlo]
    simp [Instr.sliceAt, run_underlying hu, Instr.sureAddr, Instr.sliceBounds, Instr.sliceBound, asIntOf, Nat.le_of_lt hk, h2, Result.andThen, addr_add, show ¬ m = k by omega]
    exact hK _ _ h
end
end Go.Proofs.YtfonbliomokffaaGreat
/- Contracts of wire.extend and wire.AppendUint. -/
namespace Go.Proofs.YtfonbliomokffaaGreat
open Go.RowKit Gf Sha

theorem or128 (b : UInt8) : bits .or .u8 (bv b) 128 = bv (b ||| 128) := Gf.or_bits b 128
attribute [local go_sem] or128
theorem uvf_small (f n : Nat) (h : n < 128) : uvf f n = [UInt8.ofNat n] := by
  cases f with
  | zero => rfl
  | succ f => rw [uvf, if_pos h]
theorem uvf_more (f n : Nat) (h : ¬ n < 128) : uvf (f + 1) n = (UInt8.ofNat n ||| 128) :: uvf f (n >>> 7) := by rw [uvf, if_neg h]
theorem uvf_length (f n : Nat) : 1 ≤ (uvf f n).length ∧ (uvf f n).length ≤ f + 1 := by
  induction f generalizing n with
  | zero => exact ⟨Nat.le_refl _, Nat.le_refl _⟩
  | succ f ih =>
    rw [uvf]
    split
    · simp
    · have := ih (n >>> 7); simp; omega
theorem uv_length (n : Nat) : 1 ≤ (uv n).length ∧ (uv n).length ≤ 11 := uvf_length 10 n

/-- What extend leaves. -/
def ExtRet (base : Nat) (L : List UInt8) (w : World) (e : Ending) (w' : World) : Prop := ∃ v g n c, e = .returned v ∧ v = .slice (some ⟨g, 0, none⟩) n c ∧ L.length = n ∧ w'.ownsRow base 5 1 v n (L.map B) ∧ Below base w w' ∧ w.heap.size ≤ w'.heap.size

set_option maxRecDepth 100000 in
set_option maxHeartbeats 1000000 in
theorem extend_any (base m n : Nat) (v : Value) (l : List UInt8) (w : World) (ho : w.ownsRow base 5 1 v m (l.map B)) (hbase : base ≤ w.heap.size) (hm : m ≤ 10000000) (hn : n < 9223372036854775808) :
    Calls Tryz.prog 89 #[v, .int .u64 (n : Int)] w (ExtRet base (l ++ uv n) w) := by
  have HO := Lib.hid ho
  have HBS := Lib.hid hbase
  have HN := Lib.hid hn
  have HMB := Lib.hid hm
  clear ho hbase hn hm
  go_enter Tryz.func89, Tryz.ntmps89
  go_wp2_with fail
  go_loopw [0, 1] (fun x y wr => ∃ (v1 : Value) (m1 n1 f : Nat) (l1 : List UInt8), m1 ≤ m + 10 ∧ f ≤ 10 ∧ x = v1 ∧ y = .int .u64 (n1 : Int) ∧ Hid (n1 < 9223372036854775808) ∧ Hid (m1 + f = m + 10) ∧ Hid (n1 < 2 ^ (7 * (f + 1))) ∧ Hid (l1 ++ uvf f n1 = l ++ uv n) ∧ Hid (wr.ownsRow base 5 1 v1 m1 (l1.map B)) ∧ Hid (Below base w wr) ∧ Hid (w.heap.size ≤ wr.heap.size)) (fun _ y _ => (intOf y).toNat)
  case atStart => exact ⟨_, m, n, 10, l, by omega, by omega, rfl, rfl, HN, Lib.hid rfl, Lib.hid (by have := HN.out; exact Nat.lt_of_lt_of_le this (by decide)), Lib.hid rfl, HO, Lib.hid (Below.refl _ _), Lib.hid (Nat.le_refl _)⟩
  case round =>
    obtain ⟨v1, m1, n1, f, l1, hm1, hf, rfl, rfl, hn1, hmf, hnf, hl, ho1, hb1, hz1⟩ := hrel
    obtain ⟨wx, hwx⟩ : ∃ x, x = wr := ⟨_, rfl⟩
    rw [← hwx] at ho1 hb1 hz1 ⊢
    clear hwx
    have HBX : Hid (base ≤ wx.heap.size) := Lib.hid (by have := HBS.out; have := hz1.out; omega)
    have HMK : Hid (m1 < 100000000) := Lib.hid (by have := HMB.out; omega)
    by_cases hlt : n1 < 128
    · have HBK : Hid (Blk (wx.alloc (.cells #[B (UInt8.ofNat n1)] 5)) wx.heap.size 5 #[B (UInt8.ofNat n1)]) := Lib.hid (Blk.new wx 5 #[B (UInt8.ofNat n1)])
      have HOO := Lib.hid (ho1.out.kept (World.grownBy_alloc wx (.cells #[B (UInt8.ofNat n1)] 5) none) (by rcases ho1.out.2 with ⟨rfl, _⟩ | ⟨_, _, _, rfl, _⟩ <;> simp [Value.ownBlock]))
      have HBB := Lib.hid (hb1.out.alloc HBX.out (.cells #[B (UInt8.ofNat n1)] 5))
      have HSB : Hid (base ≤ (wx.alloc (.cells #[B (UInt8.ofNat n1)] 5)).heap.size) := Lib.hid (by have := HBX.out; simp; omega)
      have HE : Hid (l1 ++ [UInt8.ofNat n1] = l ++ uv n) := Lib.hid (by rw [← hl.out, uvf_small f n1 hlt])
      go_wp2_with (first
        | ((with_reducible show wpList _ _ _ (⟨some 17, _, _, _, _, _⟩ :: _) _ _); refine wpList_u8N _ rfl (.tmp 16) 103 5 rfl _ .u64 Tryz.underlying103 Tryz.underlying5 n1 _ rfl rfl ?_)
        | ((with_reducible show wpList _ _ _ (⟨some 19, _, _, _, _, _⟩ :: _) _ _); refine wpList_app1 _ rfl (.tmp 15) (.tmp 18) 31 5 (.int .u8 0) 1 Tryz.underlying31 infoU8 rfl rfl base _ m1 _ rfl HOO.out wx.heap.size 1 5 (B (UInt8.ofNat n1)) rfl HBK.out rfl (by have := HMK.out; omega) (by have := HMK.out; omega) HSB.out ?_; intro v6 w6 hp))
      obtain ⟨g6, c6, rfl⟩ := hp.form (by omega)
      go_ret
      refine ⟨_, g6, m1 + 1, c6, rfl, rfl, ?_, ?_, hp.below HOO.out HBB.out (Nat.le_refl _) HSB.out, ?_⟩
      · rw [← HE.out, List.length_append]
        have := ho1.out.1
        simp at this
        simp [this]
      · have := hp.own
        rw [← HE.out, List.map_append]
        exact this
      · have h1 := hz1.out
        have h2 := hp.2.1.size
        simp at h2
        omega
    · obtain ⟨f, rfl⟩ : ∃ f', f = f' + 1 := ⟨f - 1, by
        rcases Nat.eq_zero_or_pos f with h0 | h0
        · subst h0; have := hnf.out; omega
        · omega⟩
      have hge : 128 ≤ n1 := by omega
      have hsr : n1 >>> 7 = n1 / 128 := by rw [Nat.shiftRight_eq_div_pow]
      have hn2 : Hid (n1 >>> 7 < 9223372036854775808) := Lib.hid (by have := hn1.out; omega)
      have hlt2 : n1 >>> 7 < n1 := by omega
      have HSR := Lib.hid hsr
      clear hsr
      have HBK : Hid (Blk (wx.alloc (.cells #[B (UInt8.ofNat n1 ||| 128)] 5)) wx.heap.size 5 #[B (UInt8.ofNat n1 ||| 128)]) := Lib.hid (Blk.new wx 5 #[B (UInt8.ofNat n1 ||| 128)])
      have HOO := Lib.hid (ho1.out.kept (World.grownBy_alloc wx (.cells #[B (UInt8.ofNat n1 ||| 128)] 5) none) (by rcases ho1.out.2 with ⟨rfl, _⟩ | ⟨_, _, _, rfl, _⟩ <;> simp [Value.ownBlock]))
      have HBB := Lib.hid (hb1.out.alloc HBX.out (.cells #[B (UInt8.ofNat n1 ||| 128)] 5))
      have HSB : Hid (base ≤ (wx.alloc (.cells #[B (UInt8.ofNat n1 ||| 128)] 5)).heap.size) := Lib.hid (by have := HBX.out; simp; omega)
      have HE : Hid ((l1 ++ [UInt8.ofNat n1 ||| 128]) ++ uvf f (n1 >>> 7) = l ++ uv n) := Lib.hid (by rw [← hl.out, uvf_more f n1 hlt, List.append_assoc]; rfl)
      have HF : Hid (n1 >>> 7 < 2 ^ (7 * (f + 1))) := Lib.hid (by
        rw [HSR.out]
        have h1 := hnf.out
        rw [show 7 * (f + 1 + 1) = 7 * (f + 1) + 7 by omega, Nat.pow_add] at h1
        exact Nat.div_lt_of_lt_mul (by rw [Nat.mul_comm]; exact h1))
      go_wp2_with (first
        | ((with_reducible show wpList _ _ _ (⟨some 9, _, _, _, _, _⟩ :: _) _ _); refine wpList_u8N _ rfl (.tmp 8) 103 5 rfl _ .u64 Tryz.underlying103 Tryz.underlying5 n1 _ rfl rfl ?_)
        | ((with_reducible show wpList _ _ _ (⟨some 12, _, _, _, _, _⟩ :: _) _ _); refine wpList_app1 _ rfl (.tmp 7) (.tmp 11) 31 5 (.int .u8 0) 1 Tryz.underlying31 infoU8 rfl rfl base _ m1 _ rfl HOO.out wx.heap.size 1 5 (B (UInt8.ofNat n1 ||| 128)) rfl HBK.out rfl (by have := HMK.out; omega) (by have := HMK.out; omega) HSB.out ?_; intro v6 w6 hp; have HP := Lib.hid hp; clear hp)
        | ((with_reducible show wpList _ _ _ (⟨some 14, _, _, _, _, _⟩ :: _) _ _); refine wpList_shrN _ rfl (.tmp 13) _ _ _ rfl .u64 n1 7 _ 7 rfl rfl rfl rfl (by decide) ?_))
      go_roundw
      case rel => exact ⟨v6, m1 + 1, n1 >>> 7, f, l1 ++ [UInt8.ofNat n1 ||| 128], by have := hmf.out; omega, by omega, rfl, rfl, hn2, Lib.hid (by have := hmf.out; omega), HF, HE, Lib.hid (by have := HP.out.own; rw [List.map_append]; exact this), Lib.hid (HP.out.below HOO.out HBB.out (Nat.le_refl _) HSB.out), Lib.hid (by have h1 := hz1.out; have h2 := HP.out.2.1.size; simp at h2; omega)⟩
      case measure => simp only [intOf, Int.toNat_natCast]; exact hlt2

set_option maxHeartbeats 400000 in
theorem appu_any (A : Option Addr) (n c k : Nat) (l : List UInt8) (w : World) (h : BS w A n c l) (hn : n ≤ 1000000) (hk : k < 9223372036854775808) :
    Calls Tryz.prog 90 #[.slice A n c, .int .u64 (k : Int)] w (ExtRet w.heap.size (l ++ uv k) w) := by
  have H := Lib.hid h
  have HK := Lib.hid hk
  clear h hk
  go_enter Tryz.func90, Tryz.ntmps90
  go_wp2_with (first
    | ((with_reducible show wpList _ _ _ (⟨some 8, _, _, _, _, _⟩ :: _) _ _); refine wpList_mk _ rfl 31 5 _ _ rfl (.int .u8 0) 1 Tryz.underlying31 infoU8 rfl 0 (n + 10) 0 _ rfl rfl rfl (by omega) (by omega) (by omega) (by omega) ?_; intro w2 b1 b2 b3; have HB1 := Lib.hid b1; have HB2 := Lib.hid b2; have HB3 := Lib.hid b3; clear b1 b2 b3)
    | ((with_reducible show wpList _ _ _ (⟨some 10, _, _, _, _, _⟩ :: _) _ _); refine wpList_appB _ rfl (.tmp 8) (.tmp 9) rfl w.heap.size _ 0 [] rfl (BL.own0 HB1.out (Nat.le_refl _) (by simp) (by unfold lim; omega)) A n c l rfl (H.out.kept HB2.out) (by omega) HB2.out.size ?_; intro v3 w3 hp; have HP := Lib.hid hp; clear hp)
    | (go_at_call 89; refine (extend_any w.heap.size (0 + n) k v3 l w3 HP.out.own (by have h2 := HP.out.2.1.size; have := HB2.out.size; omega) (by omega) HK.out).mono ?_; rintro e w4 ⟨v4, g4, n4, c4, rfl, rfl, r1, r2, r3, r4⟩))
  go_ret
  have hb : Below w.heap.size w w3 := HP.out.below (BL.own0 HB1.out (Nat.le_refl _) (by simp) (by unfold lim; omega)) HB2.out (Nat.le_refl _) HB2.out.size
  exact ⟨_, g4, n4, c4, rfl, rfl, r1, r2, hb.trans r3, Nat.le_trans hb.size r4⟩
end Go.Proofs.YtfonbliomokffaaGreat
/- Contract of ref01.Number. -/
namespace Go.Proofs.YtfonbliomokffaaGreat
open Go Go.RowKit Gf Sha

theorem low_n : ∀ n, n < 256 → UInt8.ofNat n ||| 128 = UInt8.ofNat (n % 128) + 128 := by decide +kernel
theorem low_b (a : UInt8) : (a ||| 128) = UInt8.ofNat (a.toNat % 128) + 128 := by
  have h := low_n a.toNat a.toNat_lt
  rwa [UInt8.ofNat_toNat] at h
theorem low_of (n : Nat) : UInt8.ofNat (n % 128) + 128 = UInt8.ofNat n ||| 128 := by
  rw [low_b]
  congr 1
  apply UInt8.toNat_inj.1
  rw [UInt8.toNat_ofNat', UInt8.toNat_ofNat', UInt8.toNat_ofNat']
  omega
theorem add128 (b : UInt8) : IntKind.u8.wrap (bv b + 128) = bv (b + 128) := by
  unfold bv
  show ((b.toNat : Int) + 128) % 256 = _
  rw [UInt8.toNat_add]
  show _ = (((b.toNat + 128) % 256 : Nat) : Int)
  omega
attribute [local go_sem] add128

set_option maxRecDepth 100000 in
set_option maxHeartbeats 1000000 in
theorem rnum_any (N : Nat) (w : World) (hN : N ≤ 1099511627776) :
    Calls Tryz.prog 91 #[.int .u64 (N : Int)] w fun e w' => (∃ g m c', e = .returned (.slice (some ⟨g, 0, none⟩) m c') ∧ m = (uv N).length ∧ w'.ownsRow w.heap.size 5 1 (.slice (some ⟨g, 0, none⟩) m c') m ((uv N).map B)) ∧ Below w.heap.size w w' := by
  have HO0 : Hid ((w.alloc (.cells #[] 5)).ownsRow w.heap.size 5 1 (.slice (some ⟨w.heap.size, 0, none⟩) 0 0) 0 (([] : List UInt8).map B)) := Lib.hid (BL.own (BL.new w 5 []) (Nat.le_refl _) rfl (by decide))
  have HX0 : Hid (Below w.heap.size w (w.alloc (.cells #[] 5))) := Lib.hid ((Below.refl _ _).alloc (Nat.le_refl _) _)
  go_enter Tryz.func91, Tryz.ntmps91
  go_wp2_with fail
  go_loopw [0, 3] (fun i v wr => ∃ (X f m g4 c4 : Nat) (pre : List UInt8), X ≤ 1099511627776 ∧ m ≤ 20 ∧ i = .int .u64 (X : Int) ∧ v = .slice (some ⟨g4, 0, none⟩) m c4 ∧ Hid (X < 128 ^ (f + 1)) ∧ Hid (m + f = 10) ∧ Hid (pre ++ uvf f X = uv N) ∧ Hid (wr.ownsRow w.heap.size 5 1 (.slice (some ⟨g4, 0, none⟩) m c4) m (pre.map B)) ∧ Hid (Below w.heap.size w wr)) (fun i _ _ => (intOf i).toNat)
  case atStart => exact ⟨N, 10, 0, _, _, [], hN, by omega, rfl, rfl, Lib.hid (Nat.lt_of_le_of_lt hN (by decide)), Lib.hid rfl, Lib.hid rfl, HO0, HX0⟩
  case round =>
    obtain ⟨X, f, m, g4, c4, pre, hX, hm, rfl, rfl, hf, hmf, hp, ho, hb⟩ := hrel
    obtain ⟨wx, hwx⟩ : ∃ x, x = wr := ⟨_, rfl⟩
    rw [← hwx] at ho hb ⊢
    clear hwx
    by_cases hlt : 127 < X
    · obtain ⟨f, rfl⟩ : ∃ k, f = k + 1 := by
        cases f with
        | zero => exfalso; have := hf.out; simp at this; omega
        | succ k => exact ⟨k, rfl⟩
      obtain ⟨y, hy⟩ : ∃ y, y = UInt8.ofNat (X % 128) + 128 := ⟨_, rfl⟩
      have hy2 : UInt8.ofNat (X % 128) + 128 = y := hy.symm
      have HBB := Lib.hid (hb.out.alloc hb.out.size (.cells #[B y] 5))
      have HOO := Lib.hid (ho.out.kept (World.grownBy_alloc wx (.cells #[B y] 5) none) (by simp [Value.ownBlock]))
      have HBK : Hid (Blk (wx.alloc (.cells #[B y] 5)) wx.heap.size 5 #[B y]) := Lib.hid (Blk.new wx 5 #[B y])
      have HP : Hid ((pre ++ [y]) ++ uvf f (X / 128) = uv N) := Lib.hid (by
        rw [← hp.out, uvf_more f X (by omega), hy, low_of, List.append_assoc, Nat.shiftRight_eq_div_pow]; rfl)
      have HF : Hid (X / 128 < 128 ^ (f + 1)) := Lib.hid (by
        have h1 := hf.out
        rw [Nat.pow_succ] at h1
        exact Nat.div_lt_of_lt_mul (by rw [Nat.mul_comm]; exact h1))
      have h0 : (0 : Int) ≤ (X : Int) := by omega
      have hm9 : m ≤ 9 := by have := hmf.out; omega
      clear hy
      go_wp2_with (first
        | ((with_reducible show wpList _ _ _ (⟨some 9, _, _, _, _, _⟩ :: _) _ _); refine wpList_remN _ rfl (.tmp 8) _ 103 103 rfl X 128 _ 128 rfl rfl rfl rfl (by decide) ?_)
        | ((with_reducible show wpList _ _ _ (⟨some 10, _, _, _, _, _⟩ :: _) _ _); refine wpList_u8N _ rfl (.tmp 9) 103 5 rfl _ .u64 Tryz.underlying103 Tryz.underlying5 _ _ rfl rfl ?_)
        | ((with_reducible show wpList _ _ _ (⟨some 13, _, _, _, _, _⟩ :: _) _ _); refine wpList_app1 _ rfl (.tmp 7) (.tmp 12) 31 5 (.int .u8 0) 1 Tryz.underlying31 infoU8 rfl rfl w.heap.size _ m _ rfl HOO.out wx.heap.size 1 5 (B y) rfl HBK.out rfl (by omega) (by omega) HBB.out.size ?_; intro v6 w6 hpp))
      obtain ⟨g6, c6, rfl⟩ := hpp.form (by omega)
      have HO6 : Hid (w6.ownsRow w.heap.size 5 1 (.slice (some ⟨g6, 0, none⟩) (m + 1) c6) (m + 1) ((pre ++ [y]).map B)) := Lib.hid (by have := hpp.own; rw [List.map_append]; exact this)
      have HB6 := Lib.hid (hpp.below HOO.out HBB.out (Nat.le_refl _) HBB.out.size)
      clear hpp
      go_roundw
      case rel => exact ⟨X / 128, f, m + 1, _, _, pre ++ [y], by omega, by omega, by go_num, rfl, HF, Lib.hid (by have := hmf.out; omega), HP, HO6, HB6⟩
      case measure => simp [intOf]; omega
    · obtain ⟨y, hy⟩ : ∃ y, y = UInt8.ofNat X := ⟨_, rfl⟩
      have hy2 : UInt8.ofNat X = y := hy.symm
      have HBB := Lib.hid (hb.out.alloc hb.out.size (.cells #[B y] 5))
      have HOO := Lib.hid (ho.out.kept (World.grownBy_alloc wx (.cells #[B y] 5) none) (by simp [Value.ownBlock]))
      have HBK : Hid (Blk (wx.alloc (.cells #[B y] 5)) wx.heap.size 5 #[B y]) := Lib.hid (Blk.new wx 5 #[B y])
      have HP : Hid (pre ++ [y] = uv N) := Lib.hid (by rw [← hp.out, uvf_small f X (by omega), hy])
      clear hy
      go_wp2_with (first
        | ((with_reducible show wpList _ _ _ (⟨some 18, _, _, _, _, _⟩ :: _) _ _); refine wpList_u8N _ rfl (.tmp 17) 103 5 rfl _ .u64 Tryz.underlying103 Tryz.underlying5 _ _ rfl rfl ?_)
        | ((with_reducible show wpList _ _ _ (⟨some 20, _, _, _, _, _⟩ :: _) _ _); refine wpList_app1 _ rfl (.tmp 16) (.tmp 19) 31 5 (.int .u8 0) 1 Tryz.underlying31 infoU8 rfl rfl w.heap.size _ m _ rfl HOO.out wx.heap.size 1 5 (B y) rfl HBK.out rfl (by omega) (by omega) HBB.out.size ?_; intro v6 w6 hpp))
      obtain ⟨g6, c6, rfl⟩ := hpp.form (by omega)
      have HO6 : Hid (w6.ownsRow w.heap.size 5 1 (.slice (some ⟨g6, 0, none⟩) (m + 1) c6) (m + 1) ((uv N).map B)) := Lib.hid (by have := hpp.own; rw [← HP.out, List.map_append]; exact this)
      have HB6 := Lib.hid (hpp.below HOO.out HBB.out (Nat.le_refl _) HBB.out.size)
      clear hpp
      go_ret
      exact ⟨⟨g6, m + 1, c6, rfl, by have := HO6.out.1; simpa using this.symm, HO6.out⟩, HB6.out⟩
end Go.Proofs.YtfonbliomokffaaGreat
/- General laws out of texts of chapter 49 (printed by bin/mk47.py). -/
namespace Go.Proofs.YtfonbliomokffaaGreat
open Go Go.RowKit Go.ChangeMaps Gf Sha

section
variable {P : Program} (w : World) {ops : Array Oper} {rest : List Oper} {o : Oper} {a : Act} {Q : Exit → Act → World → Prop}
theorem wpList_want (hw : Region.wanted o (yielded ops a.tmps) = true)
    (h : ∀ K : Act → World → Prop, (∀ a w, wpList P ops Q rest a w → K a w) → o.wp P a w K Q) : wpList P ops Q (o :: rest) a w :=
  wpList_step fun K hK => by rw [if_pos hw]; exact h K hK
/-- A guarded load of many cells whose guard holds. -/
theorem wpList_loadvg (hw : Region.wanted o (yielded ops a.tmps) = true) (t : TypeId) (x : Operand) (hop : o.op = .load t x) (n : Nat) (ht : Agg P t n = true) (g p : Nat) (ms : List Value) (hx : a.eval x = .pointer (some ⟨g, p, none⟩))
    (hm : At w g p ms) (hn : ms.length = n) (h : wpList P ops Q rest (a.put o.dst (.agg ms.toArray)) w) : wpList P ops Q (o :: rest) a w :=
  wpList_want w hw fun K hK => by
    unfold Oper.wp execOp
    simp only [hop, hx]
    simp [run_loadAt w ht hm hn, Result.andThen]
    exact hK _ _ h
/-- A variable of one cell. -/
theorem wpList_alloc1 (hg : o.guard = none) (t : TypeId) (hop : o.op = .alloc t) (z : Value) (hz : (P.info? t).map (·.zero) = some (some z)) (hc : z.cells = #[z])
    (h : ∀ w', BL w' w.heap.size t [z] → Below w.heap.size w w' → w'.heap.size = w.heap.size + 1 → wpList P ops Q rest (a.put o.dst (.pointer (some ⟨w.heap.size, 0, none⟩))) w') : wpList P ops Q (o :: rest) a w :=
  wpList_plain hg fun K hK => by
    cases hi : P.info? t with
    | none => simp [hi] at hz
    | some i =>
      have hz' : i.zero = some z := by simpa [hi] using hz
      unfold Oper.wp execOp
      simp only [hop]
      simp [Instr.alloc, zeroValue, typeInfo, hi, hz', newVar, newRow, hc, Result.andThen]
      exact hK _ _ (h _ (BL.new w t [z]) ((Below.refl _ _).alloc (Nat.le_refl _) _) (by simp))
/-- A variable of one cell that holds a value. -/
theorem wpList_box1 (hg : o.guard = none) (t : TypeId) (x : Operand) (hop : o.op = .box t x) (v : Value) (hx : a.eval x = v) (hc : v.cells = #[v])
    (h : ∀ w', BL w' w.heap.size t [v] → Below w.heap.size w w' → w'.heap.size = w.heap.size + 1 → wpList P ops Q rest (a.put o.dst (.pointer (some ⟨w.heap.size, 0, none⟩))) w') : wpList P ops Q (o :: rest) a w :=
  wpList_plain hg fun K hK => by
    unfold Oper.wp execOp
    simp only [hop, hx]
    simp [Instr.box, newVar, newRow, hc, Result.andThen]
    exact hK _ _ (h _ (BL.new w t [v]) ((Below.refl _ _).alloc (Nat.le_refl _) _) (by simp))
theorem wpList_bsliceg (hw : Region.wanted o (yielded ops a.tmps) = true) (t te : TypeId) (n : Nat) (parts : Array (Nat × Operand)) (hop : o.op = .buildSlice t n parts) (ps : Array (Nat × Value)) (hps : (parts.map fun (i, x) => (i, a.eval x)) = ps) (l : List Value)
    (hr : (Instr.buildSlice t n ps).run P w = .ok (.slice (some ⟨w.heap.size, 0, none⟩) n n) (w.alloc (.cells l.toArray te)))
    (h : ∀ w', BL w' w.heap.size te l → Below w.heap.size w w' → w'.heap.size = w.heap.size + 1 → wpList P ops Q rest (a.put o.dst (.slice (some ⟨w.heap.size, 0, none⟩) n n)) w') : wpList P ops Q (o :: rest) a w :=
  wpList_want w hw fun K hK => by
    unfold Oper.wp execOp
    simp only [hop, hps]
    simp [hr, Result.andThen]
    exact hK _ _ (h _ (BL.new w te l) ((Below.refl _ _).alloc (Nat.le_refl _) _) (by simp))
theorem wpList_buildg (hw : Region.wanted o (yielded ops a.tmps) = true) (t : TypeId) (parts : Array (Nat × Operand)) (hop : o.op = .build t parts) (ps : Array (Nat × Value)) (hps : (parts.map fun (i, x) => (i, a.eval x)) = ps) (v : Value) (hr : (Instr.build t ps).run P w = .ok v w)
    (h : wpList P ops Q rest (a.put o.dst v) w) : wpList P ops Q (o :: rest) a w :=
  wpList_want w hw fun K hK => by
    unfold Oper.wp execOp
    simp only [hop, hps]
    simp [hr, Result.andThen]
    exact hK _ _ h
end
theorem Kp.bl {S : Nat → Prop} {w w' : World} {g : Nat} {t : TypeId} {l : List Value} (h : Kp S w w') (hb : BL w g t l) (hn : ¬ S g) : BL w' g t l := (h.block g hb.lt hn).trans hb
theorem sz1 (t : TypeId) (hz : (Tryz.prog.info? t).map (·.size) = some 1) (w : World) : (sizeOf t).run Tryz.prog w = .ok 1 w := by
  cases hi : Tryz.prog.info? t with
  | none => simp [hi] at hz
  | some i =>
    have hz' : i.size = 1 := by simpa [hi] using hz
    simp [sizeOf, typeInfo, hi, hz']
theorem LS.kpn {α : Type} {R : Rdg α} {s b n c : Nat} {w w' : World} {A : Option Addr} {L : List α} {S : Nat → Prop} (h : LS R s b w A n c L) (hR : ∀ cs x, R w cs x → R w' cs x) (hk : Kp S w w') (hn : ∀ a, A = some a → ¬ S a.block) : LS R s b w' A n c L :=
  ⟨h.1, h.2.1, h.2.2.1, fun k hk' => let ⟨g, o, cs, e, h1, h2⟩ := h.2.2.2 k hk'; ⟨g, o, cs, e, fun j v hj => hk.cell (h1 j v hj) (by have := hn _ e; exact this), hR _ _ h2⟩⟩
end Go.Proofs.YtfonbliomokffaaGreat
/- wire.Writer. -/
namespace Go.Proofs.YtfonbliomokffaaGreat
open Go Go.RowKit Gf Sha

theorem ret_bool {a b : Bool} (h : a = b) : Ending.returned (.bool a) = .returned (.bool b) := by rw [h]
theorem own_kp {w w' : World} {base s n g : Nat} {te : TypeId} {v : Value} {xs : List Value} (h : w.ownsRow base te s v n xs) (hk : Kp (· = g) w w') (hg : g < base) : w'.ownsRow base te s v n xs := by
  refine ⟨h.1, ?_⟩
  rcases h.2 with h9 | ⟨b, c, cur, rfl, h8, h10, h11⟩
  · exact .inl h9
  · refine .inr ⟨b, c, cur, rfl, h8, ?_, h11⟩
    have hlt : b < w.heap.size := (Array.getElem?_eq_some_iff.1 h10).1
    rw [hk.block b hlt (by omega)]; exact h10
theorem own_kept {w w' : World} {base s n : Nat} {te : TypeId} {v : Value} {xs : List Value} (h : w.ownsRow base te s v n xs) (hb : Below w.heap.size w w') : w'.ownsRow base te s v n xs := by
  refine ⟨h.1, ?_⟩
  rcases h.2 with h9 | ⟨b, c, cur, rfl, h8, h10, h11⟩
  · exact .inl h9
  · refine .inr ⟨b, c, cur, rfl, h8, ?_, h11⟩
    have hlt : b < w.heap.size := (Array.getElem?_eq_some_iff.1 h10).1
    rw [hb.block b hlt]; exact h10
theorem own_ge {w : World} {base s n : Nat} {te : TypeId} {v : Value} {xs : List Value} (h : w.ownsRow base te s v n xs) : ∀ k, v.ownBlock = some k → base ≤ k := fun k e => by
  rcases h.2 with ⟨rfl, _⟩ | ⟨b, c, cur, rfl, h8, _⟩
  · cases e
  · cases e; exact h8
theorem own_frm {w : World} {base s n : Nat} {te : TypeId} {v : Value} {xs : List Value} (h : w.ownsRow base te s v n xs) (hn : 0 < n) : ∃ b c, v = .slice (some ⟨b, 0, none⟩) n c := by
  rcases h.2 with ⟨_, h0⟩ | ⟨b, c, cur, rfl, _⟩
  · omega
  · exact ⟨b, c, rfl⟩
theorem below_kp {w w1 w2 : World} {g : Nat} (h : Below (g + 1) w w1) (hg : g < w1.heap.size) (hk : Kp (· = g) w1 w2) : Below g w w2 :=
  (h.mono (Nat.le_succ g)).trans (hk.below (Nat.le_of_lt hg) (fun k e => by omega))
/-- A writer without an error, and its bytes. -/
def WrOk (w : World) (g : Nat) (l : List UInt8) : Prop := ∃ (v : Value) (n : Nat), BL w g 143 [v, .int .i64 0] ∧ w.ownsRow (g + 1) 5 1 v n (l.map B) ∧ l.length = n ∧ v.cells = #[v] ∧ v.oneCell' = true
theorem BL.belowB {w w' : World} {g b : Nat} {t : TypeId} {l : List Value} (h : BL w g t l) (hg : g < b) (hb : Below b w w') : BL w' g t l := (hb.block g hg).trans h
theorem WrOk.kept {w w' : World} {g : Nat} {l : List UInt8} (h : WrOk w g l) (hb : Below w.heap.size w w') : WrOk w' g l := by
  obtain ⟨v, n, h1, h2, h3, h4, h5⟩ := h
  exact ⟨v, n, h1.kept hb, own_kept h2 hb, h3, h4, h5⟩
theorem WrOk.lt {w : World} {g : Nat} {l : List UInt8} (h : WrOk w g l) : g < w.heap.size := let ⟨_, _, h1, _⟩ := h; h1.lt
theorem bldWr (w : World) : (Instr.build 143 #[]).run Tryz.prog w = .ok (.agg [.slice none 0 0, .int .i64 0].toArray) w := by kernel_rfl
set_option maxHeartbeats 400000 in
theorem newWriter_any (w : World) : Calls Tryz.prog 58 #[] w fun e w' => e = .returned (.pointer (some ⟨w.heap.size, 0, none⟩)) ∧ WrOk w' w.heap.size [] ∧ Below w.heap.size w w' := by
  go_enter Tryz.func58, Tryz.ntmps58
  go_wp2_with (first
    | ((with_reducible show wpList _ _ _ (⟨some 1, _, _, _, _, _⟩ :: _) _ _); refine wpList_build _ rfl 143 #[] rfl #[] (by rfl) (.agg [.slice none 0 0, .int .i64 0].toArray) (bldWr _) ?_)
    | ((with_reducible show wpList _ _ _ (⟨some 2, _, _, _, _, _⟩ :: _) _ _); refine wpList_box _ rfl 143 (.tmp 1) rfl [.slice none 0 0, .int .i64 0] rfl ?_; intro w1 y1 y2 y3; have HG1 := Lib.hid y1; have HB1 := Lib.hid y2; clear y1 y2 y3))
  go_ret
  exact ⟨rfl, ⟨_, 0, HG1.out, ⟨rfl, .inl ⟨rfl, rfl⟩⟩, rfl, rfl, rfl⟩, HB1.out⟩
set_option maxHeartbeats 1000000 in
theorem wuint_any (w : World) (g n : Nat) (l : List UInt8) (h : WrOk w g l) (hl : l.length ≤ 1000000) (hn : n < 9223372036854775808) :
    Calls Tryz.prog 59 #[.pointer (some ⟨g, 0, none⟩), .int .u64 (n : Int)] w fun e w' => e = .returned (.tuple #[]) ∧ WrOk w' g (l ++ uv n) ∧ Below g w w' := by
  obtain ⟨v, m, h1, h2, h3, h4, h5⟩ := h
  have HV := Lib.hid h1
  have HO := Lib.hid h2
  have HN := Lib.hid hn
  have HM : Hid (m ≤ 10000000) := Lib.hid (by omega)
  have HG := Lib.hid h1.lt
  have q0 := h1.get (j := 0) rfl
  have q1 := h1.get (j := 1) rfl
  clear h1 h2 h3 h4 h5 hn hl
  go_enter Tryz.func59, Tryz.ntmps59
  go_wp2_with (first
    | (go_at_call 89; refine (extend_any (g + 1) m n v l w HO.out HG.out HM.out HN.out).mono ?_; rintro e w1 ⟨v1, g1, n1, c1, rfl, rfl, r1, r2, r3, r4⟩; have HV1 := Lib.hid (HV.out.belowB (Nat.lt_succ_self g) r3); have HO1 := Lib.hid r2; have HB1 := Lib.hid r3; have HL1 := Lib.hid r1; clear r1 r2 r3 r4)
    | ((with_reducible show wpList _ _ _ (⟨none, _, _, _, _, _⟩ :: _) _ _); refine wpList_store1 _ rfl 31 (.tmp 17) (.tmp 15) rfl (sz1 _ (by kernel_rfl) _) g 0 _ _ (.slice (some ⟨g1, 0, none⟩) n1 c1) rfl rfl HV1.out rfl rfl (by simp) ?_; intro w2 y1 y2 y3; have HV2 := Lib.hid y1; have HK2 := Lib.hid y2; clear y1 y2 y3))
  go_end0
  exact ⟨rfl, ⟨_, n1, HV2.out, own_kp HO1.out HK2.out (Nat.lt_succ_self g), HL1.out, rfl, rfl⟩, below_kp HB1.out HV1.out.lt HK2.out⟩
set_option maxHeartbeats 1000000 in
theorem wcount_any (w : World) (g n : Nat) (l : List UInt8) (h : WrOk w g l) (hl : l.length ≤ 1000000) (hn : n < 9223372036854775808) :
    Calls Tryz.prog 60 #[.pointer (some ⟨g, 0, none⟩), .int .i64 (n : Int)] w fun e w' => e = .returned (.tuple #[]) ∧ WrOk w' g (l ++ uv n) ∧ Below g w w' := by
  have H := Lib.hid h
  have HN := Lib.hid hn
  have HL := Lib.hid hl
  obtain ⟨v, m, h1, _⟩ := h
  have q1 := h1.get (j := 1) rfl
  have f1 : decide ((n : Int) < 0) = false := decide_eq_false (by omega)
  have f2 : IntKind.u64.wrap (n : Int) = (n : Int) := by show (n : Int) % 18446744073709551616 = _; omega
  clear h1 hn hl
  go_enter Tryz.func60, Tryz.ntmps60
  go_wp2_with (first
    | (go_at_call 59; refine (wuint_any w g n l H.out HL.out HN.out).mono ?_; rintro e w1 ⟨rfl, r1, r2⟩; have HW1 := Lib.hid r1; have HB1 := Lib.hid r2; clear r1 r2))
  go_end0
  exact ⟨rfl, HW1.out, HB1.out⟩
set_option maxHeartbeats 1000000 in
theorem wsum_any (w : World) (g : Nat) (l s : List UInt8) (h : WrOk w g l) (hl : l.length ≤ 1000000) (hs : s.length = 32) :
    Calls Tryz.prog 61 #[.pointer (some ⟨g, 0, none⟩), .string (strB s)] w fun e w' => e = .returned (.tuple #[]) ∧ WrOk w' g (l ++ s) ∧ Below g w w' := by
  obtain ⟨v, m, h1, h2, h3, h4, h5⟩ := h
  have HV := Lib.hid h1
  have HO := Lib.hid h2
  have HM : Hid (m ≤ 10000000) := Lib.hid (by omega)
  have HLM := Lib.hid h3
  have HS := Lib.hid hs
  have HG := Lib.hid h1.lt
  have q0 := h1.get (j := 0) rfl
  have q1 := h1.get (j := 1) rfl
  have e1 : (strB s).size = 32 := by rw [strB_size]; exact hs
  clear h1 h2 h3 h4 h5 hl hs
  go_enter Tryz.func61, Tryz.ntmps61
  go_wp2_with (first
    | ((with_reducible show wpList _ _ _ (⟨some 21, _, _, _, _, _⟩ :: _) _ _); refine wpList_appS _ rfl (.tmp 19) (.tmp 20) rfl (g + 1) v m l s rfl HO.out rfl (by have := HM.out; have := HS.out; omega) HG.out ?_; intro v1 w1 o1 gr; obtain ⟨b1, c1, ev⟩   := own_frm o1 (by have := HS.out; omega); subst ev; have HO1 := Lib.hid o1; have HV1 : Hid (BL w1 g 143 [v, .int .i64 0]) := Lib.hid (grown_blk gr HV.out (fun e => by have := own_ge HO.out g e; omega)); have HB1 : Hid (Below (g + 1) w w1) := Lib.hid (((Kp.refl (S := fun k => v.ownBlock = some k) w).grown gr (fun k e => .inl e)).below HG.out (fun k e => own_ge HO.out k e)); clear o1 gr)
    | ((with_reducible show wpList _ _ _ (⟨none, _, _, _, _, _⟩ :: _) _ _); refine wpList_store1 _ rfl 31 (.tmp 23) (.tmp 21) rfl (sz1 _ (by kernel_rfl) _) g 0 _ _ (.slice (some ⟨b1, 0, none⟩) (m + s.length) c1) rfl rfl HV1.out rfl rfl (by simp) ?_; intro w2 y1 y2 y3; have HV2 := Lib.hid y1; have HK2 := Lib.hid y2; clear y1 y2 y3))
  go_end0
  exact ⟨rfl, ⟨_, _, HV2.out, own_kp HO1.out HK2.out (Nat.lt_succ_self g), by rw [List.length_append, HLM.out], rfl, rfl⟩, below_kp HB1.out HV1.out.lt HK2.out⟩
theorem bsl0 (w : World) : (Instr.buildSlice 31 0 #[]).run Tryz.prog w = .ok (.slice (some ⟨w.heap.size, 0, none⟩) 0 0) (w.alloc (.cells ([] : List Value).toArray 5)) := by kernel_rfl
set_option maxHeartbeats 1000000 in
theorem wdone_any (w : World) (g : Nat) (l : List UInt8) (h : WrOk w g l) (hl : l.length ≤ 1048576) :
    Calls Tryz.prog 62 #[.pointer (some ⟨g, 0, none⟩)] w fun e w' => ∃ A n c, e = .returned (.tuple #[.slice A n c, .int .i64 0]) ∧ BS w' A n c l ∧ Below w.heap.size w w' := by
  obtain ⟨v, m, h1, h2, h3, _⟩ := h
  have hm : m ≤ 1048576 := by omega
  obtain ⟨A, c, rfl, hbs⟩ := BS.of_own h2 (by unfold lim; omega)
  have HBS := Lib.hid hbs
  have q0 := h1.get (j := 0) rfl
  have q1 := h1.get (j := 1) rfl
  have f1 : decide ((1048576 : Int) < (m : Int)) = false := decide_eq_false (by omega)
  clear h1 h2 h3 hbs hl
  go_enter Tryz.func62, Tryz.ntmps62
  go_wp2_with (first
    | ((with_reducible show wpList _ _ _ (⟨some 19, _, _, _, _, _⟩ :: _) _ _); refine wpList_bslice _ rfl 31 5 0 _ rfl #[] (by rw [List.map_toArray]; rfl) [] (bsl0 _) ?_; intro w1 y1 y2 y3; have HG1 := Lib.hid y1; have HB1 := Lib.hid y2; have q0 := cell_kept y2 q0; clear y1 y2 y3)
    | ((with_reducible show wpList _ _ _ (⟨some 24, _, _, _, _, _⟩ :: _) _ _); refine wpList_appB _ rfl (.tmp 19) (.tmp 23) rfl w.heap.size _ 0 [] rfl (BL.own HG1.out (Nat.le_refl _) rfl (by decide)) A m c l rfl (HBS.out.kept HB1.out) (by omega) HB1.out.size ?_; intro v2 w2 hp; have HP := Lib.hid hp; clear hp))
  have hown := HP.out.own
  rw [Nat.zero_add, List.nil_append] at hown
  obtain ⟨A2, c2, rfl, hb2⟩ := BS.of_own hown (by unfold lim; omega)
  have HB2 := Lib.hid hb2
  go_ret2
  exact ⟨A2, m, c2, rfl, HB2.out, HP.out.below (BL.own HG1.out (Nat.le_refl _) rfl (by decide)) HB1.out (Nat.le_refl _) HB1.out.size⟩
end Go.Proofs.YtfonbliomokffaaGreat
