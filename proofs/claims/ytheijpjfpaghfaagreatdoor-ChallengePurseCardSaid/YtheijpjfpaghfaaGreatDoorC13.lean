/- Several texts in one: Ari2, Mer1, Mer2, Text3, Mer3, Mt0, Pu4, Mt1. -/
import Derived.Test.YtheijpjfpaghfaaGreatDoorC7
import Derived.Test.YtheijpjfpaghfaaGreatDoorC5
import Derived.Test.YtheijpjfpaghfaaGreatDoorC12
import Derived.Test.YtheijpjfpaghfaaGreatDoorShelf
import Derived.Test.YtheijpjfpaghfaaGreatDoorC4
import Derived.Test.YtheijpjfpaghfaaGreatDoorC6
/- More operations on numbers that are casts of naturals; a byte of a string. Proved for any program. -/
namespace Go.Proofs.YtheijpjfpaghfaaGreatDoor
open Go Go.RowKit Gf

section
variable {P : Program} (w : World) {ops : Array Oper} {rest : List Oper} {o : Oper} {a : Act} {Q : Exit → Act → World → Prop}
theorem wrapU (n : Nat) (h : n < 18446744073709551616) : IntKind.u64.wrap (n : Int) = (n : Int) := by
 show (n : Int) % 18446744073709551616 = _; omega
/-- x << s. -/
theorem wpList_shlN (hg : o.guard = none) (x y : Operand) (t t2 : TypeId) (hop : o.op = .binOp .shl t x y t2) (ky : IntKind) (X s : Nat) (zx zy : Int) (hx : a.eval x = .int .u64 zx) (hy : a.eval y = .int ky zy) (hX : zx = (X : Int)) (hs : zy = (s : Int)) (hs64 : s ≤ 64) (hb : X * 2 ^ s < 18446744073709551616)
  (h : wpList P ops Q rest (a.put o.dst (.int .u64 ((X * 2 ^ s : Nat) : Int))) w) : wpList P ops Q (o :: rest) a w :=
 wpList_plain hg fun K hK => by
  subst hX hs
  have e : ∀ w', (binOp .shl t (.int .u64 (X : Int)) (.int ky (s : Int))).run P w' = .ok (.int .u64 ((X * 2 ^ s : Nat) : Int)) w' := fun w' => by
   have e3 : (X : Int) * 2 ^ min (s : Int).toNat IntKind.u64.bits = ((X * 2 ^ s : Nat) : Int) := by
    rw [Int.toNat_natCast, Nat.min_eq_left (by show s ≤ 64; exact hs64), Int.natCast_mul, Int.natCast_pow]; rfl
   show (Op.shift .shl .u64 (X : Int) ky (s : Int)).run P w' = _
   unfold Op.shift
   rw [if_neg (by omega)]
   show Result.ok (Value.int IntKind.u64 (IntKind.u64.wrap _)) w' = _
   rw [e3, wrapU _ hb]
  unfold Oper.wp execOp
  simp only [hop, hx, hy]
  simp [eqGuard, Result.andThen, e]
  exact hK _ _ (by simpa using h)
/-- x | y. -/
theorem wpList_orN (hg : o.guard = none) (x y : Operand) (t t2 : TypeId) (hop : o.op = .binOp .or t x y t2) (X Y : Nat) (zx zy : Int) (hx : a.eval x = .int .u64 zx) (hy : a.eval y = .int .u64 zy) (hX : zx = (X : Int)) (hY : zy = (Y : Int)) (hXb : X < 18446744073709551616) (hYb : Y < 18446744073709551616)
  (h : wpList P ops Q rest (a.put o.dst (.int .u64 ((X ||| Y : Nat) : Int))) w) : wpList P ops Q (o :: rest) a w :=
 wpList_plain hg fun K hK => by
  subst hX hY
  have e : ∀ w', (binOp .or t (.int .u64 (X : Int)) (.int .u64 (Y : Int))).run P w' = .ok (.int .u64 ((X ||| Y : Nat) : Int)) w' := fun w' => by
   have e2 := u64_or_nat X Y hXb hYb
   show Result.ok (Value.int IntKind.u64 (bits .or .u64 (X : Int) (Y : Int))) w' = _
   rw [e2]
  unfold Oper.wp execOp
  simp only [hop, hx, hy]
  simp [eqGuard, Result.andThen, e]
  exact hK _ _ (by simpa using h)
/-- x % y. -/
theorem wpList_remN (hg : o.guard = none) (x y : Operand) (t t2 : TypeId) (hop : o.op = .binOp .rem t x y t2) (X Y : Nat) (zx zy : Int) (hx : a.eval x = .int .u64 zx) (hy : a.eval y = .int .u64 zy) (hX : zx = (X : Int)) (hY : zy = (Y : Int)) (hY0 : 0 < Y)
  (h : wpList P ops Q rest (a.put o.dst (.int .u64 ((X % Y : Nat) : Int))) w) : wpList P ops Q (o :: rest) a w :=
 wpList_plain hg fun K hK => by
  subst hX hY
  have e : ∀ w', (binOp .rem t (.int .u64 (X : Int)) (.int .u64 (Y : Int))).run P w' = .ok (.int .u64 ((X % Y : Nat) : Int)) w' := fun w' => by
   have hne : ¬ Y = 0 := by omega
   show (Op.intDiv .rem .u64 (X : Int) (Y : Int)).run P w' = _
   unfold Op.intDiv
   simp [hne]
   exact Int.tmod_eq_emod_of_nonneg (by omega)
  unfold Oper.wp execOp
  simp only [hop, hx, hy]
  simp [eqGuard, Result.andThen, e]
  exact hK _ _ (by simpa using h)
/-- A number in another kind that holds it. -/
theorem wpList_convN (hg : o.guard = none) (x : Operand) (t t2 : TypeId) (hop : o.op = .convert t t2 x) (d : TypeDesc) (k k2 : IntKind) (ht : P.underlying t = some d) (ht2 : P.underlying t2 = some (.int k2)) (X : Nat) (zx : Int) (hx : a.eval x = .int k zx) (hX : zx = (X : Int)) (hw : k2.wrap (X : Int) = (X : Int))
  (h : wpList P ops Q rest (a.put o.dst (.int k2 (X : Int))) w) : wpList P ops Q (o :: rest) a w :=
 wpList_plain hg fun K hK => by
  subst hX
  unfold Oper.wp execOp
  simp only [hop, hx]
  simp [convert, run_underlying ht, run_underlying ht2, Conv.intToInt, Result.andThen, hw]
  exact hK _ _ h
/-- s[k]. -/
theorem wpList_idxS (hg : o.guard = none) (x y : Operand) (t : TypeId) (hop : o.op = .index t x y) (ht : P.underlying t = some .string) (l : List UInt8) (k : Nat) (zy : Int) (hx : a.eval x = .string (strB l)) (hy : a.eval y = .int .i64 zy) (hz : zy = (k : Int)) (hk : k < l.length)
  (h : wpList P ops Q rest (a.put o.dst (B (gB l k))) w) : wpList P ops Q (o :: rest) a w :=
 wpList_plain hg fun K hK => by
  subst hz
  have e : (strB l)[k]? = some (gB l k) := by
   have h1 : k < (strB l).size := hk
   rw [getElem?_pos (strB l) k h1, gB_eq hk]
   rfl
  unfold Oper.wp execOp
  simp only [hop, hx, hy]
  have hr : (Instr.index t (.string (strB l)) (.int .i64 (k : Int))).run P w = .ok (B (gB l k)) w := by
   unfold Instr.index
   rw [Sem.run_bind]
   simp only [asIntOf, Sem.run_pure, Result.andThen_ok, Sem.run_bind, run_underlying ht]
   rw [if_pos (by omega), Int.toNat_natCast, e]
   rfl
  simp [hr, Result.andThen]
  exact hK _ _ h
end
/-- A number out of bytes, the greatest first. -/
def beN (l : List UInt8) : Nat := l.foldl (fun v b => v * 256 + b.toNat) 0
theorem beN_snoc (l : List UInt8) (b : UInt8) : beN (l ++ [b]) = beN l * 256 + b.toNat := by simp [beN]
theorem beN_lt' (l : List UInt8) : ∀ v, l.foldl (fun v b => v * 256 + b.toNat) v < (v + 1) * 256 ^ l.length := by
 induction l with
 | nil => intro v; simp
 | cons b l ih =>
  intro v
  have h1 := ih (v * 256 + b.toNat)
  have h2 := b.toNat_lt
  rw [List.foldl_cons, List.length_cons, Nat.pow_succ]
  refine Nat.lt_of_lt_of_le h1 ?_
  rw [Nat.mul_comm (256 ^ l.length) 256, ← Nat.mul_assoc]
  exact Nat.mul_le_mul_right _ (by omega)
theorem beN_lt (l : List UInt8) : beN l < 256 ^ l.length := by
 have := beN_lt' l 0
 simpa [beN] using this
theorem or_low (x y : Nat) (h : y < 256) : x * 256 ||| y = x * 256 + y := by
 rw [Nat.mul_comm]
 exact (Nat.two_pow_add_eq_or_of_lt (i := 8) (by simpa using h) x).symm
end Go.Proofs.YtheijpjfpaghfaaGreatDoor
/- Contracts of merkle.split, isSum, areSums, count, extent and of the reference's Split and Sums. -/
namespace Go.Proofs.YtheijpjfpaghfaaGreatDoor
open Go Go.RowKit Gf Sha

/-- The greatest power of two below n. -/
def spl (n : Nat) : Nat := 2 ^ (Lib.bitLen (n - 1) - 1)
theorem spl_dec : ∀ n : Fin 257, 2 ≤ n.val → 1 ≤ spl n.val ∧ spl n.val < n.val ∧ n.val ≤ 2 * spl n.val ∧ 1 ≤ Lib.bitLen (n.val - 1) ∧ Lib.bitLen (n.val - 1) ≤ 8 := by decide +kernel
theorem spl_parts {n : Nat} (h2 : 2 ≤ n) (h : n ≤ 256) : 1 ≤ spl n ∧ spl n < n ∧ n ≤ 2 * spl n ∧ 1 ≤ Lib.bitLen (n - 1) ∧ Lib.bitLen (n - 1) ≤ 8 := spl_dec ⟨n, by omega⟩ h2

section
variable {P : Program} (w : World) {ops : Array Oper} {rest : List Oper} {o : Oper} {a : Act} {Q : Exit → Act → World → Prop}
end

end Go.Proofs.YtheijpjfpaghfaaGreatDoor
/- Contracts of merkle.climb, merkle.Verify, merkle.See and of the reference's up, Verify, See. -/
namespace Go.Proofs.YtheijpjfpaghfaaGreatDoor
open Go Go.RowKit Gf Sha

theorem TS.pre {w : World} {A : Option Addr} {n c : Nat} {m : List (List UInt8)} (h : TS w A n c m) {k : Nat} (hk : k ≤ n) : TS w A k c (m.take k) := by
 refine ⟨by rw [List.length_take, h.1]; omega, by have := h.2.1; omega, by have := h.2.2.1; omega, fun j hj => ?_⟩
 have h1 := h.2.2.2 j (by omega)
 have h2 : gR (m.take k) j = gR m j := by
  rw [gR_eq (by rw [List.length_take, h.1]; omega), gR_eq (by rw [h.1]; omega), List.getElem_take]
 show ∃ g o, A = some ⟨g, o, none⟩ ∧ w.cell? ⟨g, o + j, none⟩ = some (.string (strB (gR (m.take k) j)))
 rw [h2]
 exact h1
end Go.Proofs.YtheijpjfpaghfaaGreatDoor
/- A guarded effect in a text whose guard is met. -/
namespace Go.Proofs.YtheijpjfpaghfaaGreatDoor
open Go
namespace Text
variable {P : Program} {ops : Array Oper} {Q : Exit → Act → World → Prop} {S : World → Prop} {a : Act} {w : World} {r : List (Nat × Nat)} {i : Nat}
theorem effw {o : Oper} (ho : ops[i]? = some o) (hw : Region.wanted o (yielded ops a.tmps) = true) (h : ∀ K : Act → World → Prop, (∀ a w, S w → wpText P ops Q S r a w → K a w) → o.wp P a w K NoQ) : wpText P ops Q S ((i, 2) :: r) a w := by
 have key : wpOp P ops Q i (fun a' w' => S w' ∧ wpText P ops Q S r a' w') a w := by
  unfold wpOp
  simp only [ho]
  rw [if_pos hw]
  exact .inl (wp_of_noQ (h _ fun _ _ h1 h2 => ⟨h1, h2⟩))
 with_unfolding_all exact key
end Text
end Go.Proofs.YtheijpjfpaghfaaGreatDoor
/- Contracts of merkle.Verify, merkle.See and of the reference's Verify, See. -/
namespace Go.Proofs.YtheijpjfpaghfaaGreatDoor
open Go Go.RowKit Gf Sha

end Go.Proofs.YtheijpjfpaghfaaGreatDoor
/- The tree over leaves, plainly: its root, a leaf's path from above, and that the path leads to the root. -/
namespace Go.Proofs.YtheijpjfpaghfaaGreatDoor
open Go Go.RowKit Gf Sha

/-- The root of leaves (at least one), by fuel. -/
def rtF : Nat → List (List UInt8) → List UInt8
 | 0, _ => []
 | f + 1, L => if L.length ≤ 1 then gR L 0 else mnode (rtF f (L.take (spl L.length))) (rtF f (L.drop (spl L.length)))
def rt (L : List (List UInt8)) : List UInt8 := rtF L.length L
/-- All leaves have this length. -/
def Lv (L : List (List UInt8)) : Prop := ∀ x ∈ L, x.length = 32
theorem Lv.get {L : List (List UInt8)} (h : Lv L) {k : Nat} (hk : k < L.length) : (gR L k).length = 32 := by rw [gR_eq hk]; exact h _ (List.getElem_mem hk)
theorem Lv.take {L : List (List UInt8)} (h : Lv L) (k : Nat) : Lv (L.take k) := fun x hx => h x (List.mem_of_mem_take hx)
theorem Lv.drop {L : List (List UInt8)} (h : Lv L) (k : Nat) : Lv (L.drop k) := fun x hx => h x (List.mem_of_mem_drop hx)
end Go.Proofs.YtheijpjfpaghfaaGreatDoor
/- stock.nonces. -/
namespace Go.Proofs.YtheijpjfpaghfaaGreatDoor
open Go Go.RowKit Gf

theorem RW.of_own {w : World} {base : Nat} {te : TypeId} {s : Nat} {v : Value} {n : Nat} {l : List Value} (h : w.ownsRow base te s v n l) : RW w te s v n l ∧ ∀ b, v.ownBlock = some b → base ≤ b := by
 rcases h.2 with ⟨rfl, h0⟩ | ⟨g, cap, cur, rfl, h1, h2, h3, h4, h5, h6⟩
 ·
  exact ⟨⟨h.1, .inl ⟨rfl, h0⟩⟩, fun b hb => by cases hb⟩
 ·
  exact ⟨⟨h.1, .inr ⟨g, 0, cap, cur.toList, rfl, h2, h3, h4, by rw [Array.length_toList, h5]; omega, by rw [List.drop_zero]; exact h6⟩⟩, fun b hb => by cases hb; exact h1⟩
theorem At.elem {α : Type} {f : α → List Value} {s : Nat} (hf : ∀ x, (f x).length = s) {w : World} {g o : Nat} {l : List α} (h : At w g o (l.flatMap f)) {k : Nat} (hk : k < l.length) : At w g (o + k * s) (f l[k]) := by
 intro j v hj
 have hjl := (List.getElem?_eq_some_iff.1 hj).1
 have e := flat_split (f := f) l k hk
 have h1 : ((l.take k).flatMap f).length = k * s := by rw [flat_length hf, List.length_take, Nat.min_eq_left (by omega)]
 rw [Nat.add_assoc]
 refine h _ _ ?_
 rw [e, List.append_assoc, List.getElem?_append_right (by omega), h1, Nat.add_sub_cancel_left, List.getElem?_append_left hjl]
 exact hj

/-- A list of strings of the call's own. -/
def OwnS (w : World) (base : Nat) (v : Value) (n : Nat) (l : List (List UInt8)) : Prop := RW w 9 1 v n (l.map usC) ∧ ∀ b, v.ownBlock = some b → base ≤ b

theorem clone_any (w : World) (v : Value) (us : List (List UInt8)) (n : Nat) (h : RW w 9 1 v n (us.map usC)) (hn : n ≤ 100000) :
  Calls Tryz.prog 72 #[v] w fun e w' => ∃ v', e = .returned v' ∧ OwnS w' w.heap.size v' n us ∧ Below w.heap.size w w' := by
 rcases h.2 with ⟨rfl, rfl⟩ | ⟨g, o, c, cs, rfl, hb, h1, h2, h3, h4⟩
 ·
  refine (Tryz.slices_Clone_nil 0 0 w).mono ?_
  rintro e w' ⟨rfl, rfl⟩
  exact ⟨_, rfl, ⟨h, fun b hb => by cases hb⟩, Below.refl _ _⟩
 ·
  obtain ⟨iS, i1, i2, i3, i4⟩ := info_some infoStr
  have ha : At w g o (us.map usC) := by
   rcases Nat.eq_zero_or_pos n with h0 | h0
   ·
    subst h0
    have hl : us.map usC = [] := List.eq_nil_of_length_eq_zero (by rw [h.1])
    rw [hl]
    intro j v hj; simp at hj
   ·
    obtain ⟨g', o', c', e, _, hat⟩ := h.at_ h0
    cases e; exact hat
  refine (Tryz.slices_Clone iS _ 1 16 i1 i2 i3 i4 rfl (by decide) (fun w => one_size w (by kernel_rfl)) g o n c (us.map usC) w h.1 (by unfold maxLen; omega) (by omega) (fun j u hj => ha j u hj) ?_).mono ?_
  ·
   intro u hu
   obtain ⟨x, _, rfl⟩ := List.mem_map.1 hu
   rfl
  ·
   rintro e w' ⟨v', rfl, r1, _, r3⟩
   exact ⟨v', rfl, RW.of_own r1, r3⟩

/-- The nonces of the first k tokens behind the used ones. -/
def nonK (us : List (List UInt8)) (tk : List Sc) (k : Nat) : List (List UInt8) := us ++ (tk.take k).map (·.1)
theorem nonK_succ (us : List (List UInt8)) (tk : List Sc) (k : Nat) (h : k < tk.length) : (nonK us tk k).map usC ++ [.string (strB tk[k].1)] = (nonK us tk (k + 1)).map usC := by
 unfold nonK
 rw [List.take_succ_eq_append_getElem h, List.map_append, List.map_append, List.map_append, List.map_append, List.append_assoc]
 rfl

set_option maxRecDepth 100000 in
set_option maxHeartbeats 1000000 in
theorem nonces_any (w : World) (tv uv : Value) (tk : List Sc) (us : List (List UInt8)) (h : Stk w tv uv tk us) :
  Calls Tryz.prog 36 #[stV tv uv] w fun e w' => ∃ v', e = .returned v' ∧ OwnS w' w.heap.size v' (us.length + tk.length) (us ++ tk.map (·.1)) ∧ Below w.heap.size w w' := by
 obtain ⟨A, ct, rfl, _⟩ := h.t.form
 have HT := Lib.hid h.t
 have HU := Lib.hid h.u
 have HBT := Lib.hid h.bt
 have HBU := Lib.hid h.bu
 obtain ⟨nt, hnt⟩ : ∃ nt, nt = tk.length := ⟨_, rfl⟩
 have HN := Lib.hid hnt
 rw [← hnt] at HT HBT ⊢
 obtain ⟨nu, hnu⟩ : ∃ nu, nu = us.length := ⟨_, rfl⟩
 have HM := Lib.hid hnu
 rw [← hnu] at HU HBU ⊢
 have hn0 : 0 ≤ (nt : Int) := by omega
 have hnb : (nt : Int) ≤ 100000 := by have := HBT.out; omega
 clear h hnt hnu
 go_enter Tryz.func36, Tryz.ntmps36
 go_wp2_with (first
  | ((with_reducible show OpW 1); refine wpList_box _ rfl 80 (.tmp 0) rfl [.slice A nt ct, uv] rfl ?_; intro w1 a1 a2 a3; have HS1 := Lib.hid a1; have q1 := a1.get (j := 1) rfl; have HB1 := Lib.hid a2; clear a1 a2 a3)
  | (go_at_call 72; refine (clone_any w1 uv us nu (HU.out.kept HB1.out) HBU.out).mono ?_; rintro e w2 ⟨v2, rfl, b1, b2⟩; have HO2 := Lib.hid b1; have HB2 := Lib.hid (below_then HB1.out b2); have HS2 := Lib.hid (HS1.out.kept b2); have q0 := HS2.out.get (j := 0) rfl; clear b1 b2 q1))
 have HO2' : Hid (OwnS w2 w.heap.size v2 nu us) := Lib.hid ⟨HO2.out.1, fun b hb => Nat.le_trans HB1.out.size (HO2.out.2 b hb)⟩
 rw [show us = nonK us tk 0 by simp [nonK]] at HO2'
 go_loopw [3, 12] (fun v iv wr => ∃ k : Nat, k ≤ nt ∧ iv = .int .i64 (k : Int) ∧ Hid (OwnS wr w.heap.size v (nu + k) (nonK us tk k)) ∧ Hid (Below w.heap.size w wr)) (fun _ iv _ => nt - (intOf iv).toNat)
 case atStart => exact ⟨0, by omega, rfl, HO2', HB2⟩
 case round =>
  obtain ⟨k, hk, rfl, ho, hb⟩ := hrel
  obtain ⟨wx, hwx⟩ : ∃ x, x = wr := ⟨_, rfl⟩
  rw [← hwx] at ho hb ⊢
  clear hwx q0
  by_cases hlt : k < nt
  ·
   obtain ⟨g, o, c, e, _, hat⟩ := HT.out.at_ (by omega)
   cases e
   have hkl : k < tk.length := by rw [← HN.out]; exact hlt
   have HAk := Lib.hid ((At.elem scC_length hat hkl).kept hb.out)
   have HSK := Lib.hid (nonK_succ us tk k hkl)
   obtain ⟨x, hx⟩ : ∃ x, x = tk[k] := ⟨_, rfl⟩
   rw [← hx] at HAk HSK
   have HBT' : Hid (nu + k + 1 ≤ 300000) := Lib.hid (by have := HBT.out; have := HBU.out; omega)
   clear hat hkl hx
   go_wp2_with (first
    | ((with_reducible show OpW 15); refine wpList_loadv _ rfl 109 (.tmp 14) rfl 2 (by kernel_rfl) g (o + k * 2) (scC x) rfl HAk.out rfl ?_)
    | ((with_reducible show OpW 5); refine wpList_alloc _ rfl 109 rfl scZ scZero ?_; intro w3 a1 a2 a3; have HV3 := Lib.hid a1; have HX3 := Lib.hid a2; clear a1 a2 a3)
    | ((with_reducible show OpN); refine wpList_storev _ rfl 109 (.tmp 5) (.tmp 15) rfl 2 (by kernel_rfl) wx.heap.size 0 _ scZ (scC x) rfl rfl HV3.out rfl (scC_one x) (by decide) ?_; intro w4 a1 a2 a3; have HV4 : Hid (BL w4 wx.heap.size 109 (scC x)) := Lib.hid a1; have r0 := HV4.out.get (j := 0) rfl; have HX4 : Hid (Below wx.heap.size wx w4) := Lib.hid (((Kp.of_below (S := fun _ => False) HX3.out).after a2 (fun i hi e => by omega)).below (Nat.le_refl _) (fun _ h => h.elim)); clear a1 a2 a3)
    | ((with_reducible show OpW 19); refine wpList_bslice _ rfl 52 9 1 _ rfl #[(0, .string (strB x.1))] (by rw [List.map_toArray]; rfl) [.string (strB x.1)] (bslS x.1 _) ?_; intro w5 a1 a2 a3; have HG5 := Lib.hid a1; have HX5 := Lib.hid (below_thenB HX4.out HX4.out.size a2); clear a1 a2 a3)
    | ((with_reducible show OpW 20); obtain ⟨iS, i1, i2, i3, i4⟩ := info_some infoStr; refine wpList_appRW _ rfl (.tmp 16) (.tmp 19) 52 9 1 iS _ rfl Tryz.underlying52 i1 i2 i3 rfl _ (nu + k) _ rfl (ho.out.1.kept HX5.out) w4.heap.size [.string (strB x.1)] rfl HG5.out rfl (by intro v hv; simp only [List.mem_singleton] at hv; subst hv; rfl) (by rw [i4]; have := HBT'.out; omega) (by have := HBT'.out; omega) ?_; intro v' w6 a1; have HR6 := Lib.hid a1; clear a1 i1 i2 i3 i4))
   have HB5 : Hid (Below w.heap.size w w5) := Lib.hid (below_thenB hb.out hb.out.size HX5.out)
   have HB6 : Hid (Below w.heap.size w w6) := Lib.hid (((Kp.of_below (S := fun _ => False) HB5.out).after HR6.out.kp (fun i hi e => by have := ho.out.2 i e; omega)).below (Nat.le_refl _) (fun _ h => h.elim))
   have HO6 : Hid (OwnS w6 w.heap.size v' (nu + (k + 1)) (nonK us tk (k + 1))) := Lib.hid ⟨by
     have := HR6.out.row
     rw [HSK.out] at this
     exact this, fun b hb' => (HR6.out.own b hb').elim (fun h1 => ho.out.2 b h1) (fun h1 => Nat.le_trans HB5.out.size h1)⟩
   go_roundw
   case rel => exact ⟨k + 1, by omega, by go_num, HO6, HB6⟩
   case measure => simp [intOf]; omega
  ·
   obtain rfl : k = nt := by omega
   go_wp2_with fail
   go_ret
   refine ⟨_, rfl, ?_, hb.out⟩
   have := ho.out
   rw [show nonK us tk k = us ++ tk.map (·.1) by unfold nonK; rw [HN.out, List.take_length]] at this
   exact this
end Go.Proofs.YtheijpjfpaghfaaGreatDoor
/- merkle.Blocks and the reference's: the leaves of the blocks of data. -/
namespace Go.Proofs.YtheijpjfpaghfaaGreatDoor
open Go Go.RowKit Gf Sha

/-- Block i of data. -/
def blk (x : List UInt8) (size i : Nat) : List UInt8 := (x.drop (i * size)).take size
end Go.Proofs.YtheijpjfpaghfaaGreatDoor
