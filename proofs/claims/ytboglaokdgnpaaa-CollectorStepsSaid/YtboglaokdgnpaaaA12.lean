/- Several texts in one: Uv, Ari, Ari2, Rnu. -/
import Derived.Test.YtboglaokdgnpaaaA3
import Derived.Test.YtboglaokdgnpaaaA11
import Derived.Test.YtboglaokdgnpaaaA1
/- The number encoding, plainly. -/
namespace Go.Proofs.Ytboglaokdgnpaaa
open Go Go.RowKit Gf Sha

theorem or128 (b : UInt8) : bits .or .u8 (bv b) 128 = bv (b ||| 128) := Gf.or_bits b 128
attribute [local go_sem] or128
theorem uvf_small (f n : Nat) (h : n < 128) : uvf f n = [UInt8.ofNat n] := by
 cases f with
 | zero => rfl
 | succ f => rw [uvf, if_pos h]
theorem uvf_more (f n : Nat) (h : ¬ n < 128) : uvf (f + 1) n = (UInt8.ofNat n ||| 128) :: uvf f (n >>> 7) := by rw [uvf, if_neg h]
theorem uvf_length (f n : Nat) : 1 ≤ (uvf f n).length ∧ (uvf f n).length ≤ f + 1 := by
 induction f generalizing n with
 | zero => exact ⟨Nat.le_refl _, Nat.le_refl _⟩
 | succ f ih =>
  rw [uvf]
  split
  ·
   simp
  ·
   have := ih (n >>> 7); simp; omega
theorem uv_length (n : Nat) : 1 ≤ (uv n).length ∧ (uv n).length ≤ 11 := uvf_length 10 n
end Go.Proofs.Ytboglaokdgnpaaa
/- Operations on unsigned 64-bit numbers that are casts of naturals, as laws at the operation. Proved for any program. -/
namespace Go.Proofs.Ytboglaokdgnpaaa
open Go Go.RowKit Gf

section
variable {P : Program} (w : World) {ops : Array Oper} {rest : List Oper} {o : Oper} {a : Act} {Q : Exit → Act → World → Prop}
/-- byte(x). -/
theorem wpList_u8N (hg : o.guard = none) (x : Operand) (t t2 : TypeId) (hop : o.op = .convert t t2 x) (d : TypeDesc) (k : IntKind) (ht : P.underlying t = some d) (ht2 : P.underlying t2 = some (.int .u8)) (X : Nat) (zx : Int) (hx : a.eval x = .int k zx) (hX : zx = (X : Int))
  (h : wpList P ops Q rest (a.put o.dst (B (UInt8.ofNat X))) w) : wpList P ops Q (o :: rest) a w :=
 wpList_plain hg fun K hK => by
  subst hX
  have e : IntKind.u8.wrap (X : Int) = bv (UInt8.ofNat X) := by
   show (X : Int) % 256 = _
   unfold bv
   rw [UInt8.toNat_ofNat', Int.natCast_emod]; rfl
  unfold Oper.wp execOp
  simp only [hop, hx]
  simp [convert, run_underlying ht, run_underlying ht2, Conv.intToInt, Result.andThen, e]
  exact hK _ _ h
end
end Go.Proofs.Ytboglaokdgnpaaa
/- More operations on numbers that are casts of naturals; a byte of a string. Proved for any program. -/
namespace Go.Proofs.Ytboglaokdgnpaaa
open Go Go.RowKit Gf

section
variable {P : Program} (w : World) {ops : Array Oper} {rest : List Oper} {o : Oper} {a : Act} {Q : Exit → Act → World → Prop}
/-- x % y. -/
theorem wpList_remN (hg : o.guard = none) (x y : Operand) (t t2 : TypeId) (hop : o.op = .binOp .rem t x y t2) (X Y : Nat) (zx zy : Int) (hx : a.eval x = .int .u64 zx) (hy : a.eval y = .int .u64 zy) (hX : zx = (X : Int)) (hY : zy = (Y : Int)) (hY0 : 0 < Y)
  (h : wpList P ops Q rest (a.put o.dst (.int .u64 ((X % Y : Nat) : Int))) w) : wpList P ops Q (o :: rest) a w :=
 wpList_plain hg fun K hK => by
  subst hX hY
  have e : ∀ w', (binOp .rem t (.int .u64 (X : Int)) (.int .u64 (Y : Int))).run P w' = .ok (.int .u64 ((X % Y : Nat) : Int)) w' := fun w' => by
   have hne : ¬ Y = 0 := by omega
   show (Op.intDiv .rem .u64 (X : Int) (Y : Int)).run P w' = _
   unfold Op.intDiv
   simp [hne]
   exact Int.tmod_eq_emod_of_nonneg (by omega)
  unfold Oper.wp execOp
  simp only [hop, hx, hy]
  simp [eqGuard, Result.andThen, e]
  exact hK _ _ (by simpa using h)
end
end Go.Proofs.Ytboglaokdgnpaaa
/- Contract of ref01.Number. -/
namespace Go.Proofs.Ytboglaokdgnpaaa
open Go Go.RowKit Gf Sha

theorem low_n : ∀ n, n < 256 → UInt8.ofNat n ||| 128 = UInt8.ofNat (n % 128) + 128 := by decide +kernel
theorem low_b (a : UInt8) : (a ||| 128) = UInt8.ofNat (a.toNat % 128) + 128 := by
 have h := low_n a.toNat a.toNat_lt
 rwa [UInt8.ofNat_toNat] at h
theorem low_of (n : Nat) : UInt8.ofNat (n % 128) + 128 = UInt8.ofNat n ||| 128 := by
 rw [low_b]
 congr 1
 apply UInt8.toNat_inj.1
 rw [UInt8.toNat_ofNat', UInt8.toNat_ofNat', UInt8.toNat_ofNat']
 omega
theorem add128 (b : UInt8) : IntKind.u8.wrap (bv b + 128) = bv (b + 128) := by
 unfold bv
 show ((b.toNat : Int) + 128) % 256 = _
 rw [UInt8.toNat_add]
 show _ = (((b.toNat + 128) % 256 : Nat) : Int)
 omega
attribute [local go_sem] add128

set_option maxRecDepth 100000 in
set_option maxHeartbeats 1000000 in
theorem rnum_any (N : Nat) (w : World) (hN : N ≤ 1099511627776) :
  Calls Try.prog 124 #[.int .u64 (N : Int)] w fun e w' => (∃ g m c', e = .returned (.slice (some ⟨g, 0, none⟩) m c') ∧ m = (uv N).length ∧ w'.ownsRow w.heap.size 5 1 (.slice (some ⟨g, 0, none⟩) m c') m ((uv N).map B)) ∧ Below w.heap.size w w' := by
 have HO0 : Hid ((w.alloc (.cells #[] 5)).ownsRow w.heap.size 5 1 (.slice (some ⟨w.heap.size, 0, none⟩) 0 0) 0 (([] : List UInt8).map B)) := Lib.hid (BL.own (BL.new w 5 []) (Nat.le_refl _) rfl (by decide))
 have HX0 : Hid (Below w.heap.size w (w.alloc (.cells #[] 5))) := Lib.hid ((Below.refl _ _).alloc (Nat.le_refl _) _)
 go_enter Try.func124, Try.ntmps124
 go_wp2_with fail
 go_loopw [0, 3] (fun i v wr => ∃ (X f m g4 c4 : Nat) (pre : List UInt8), X ≤ 1099511627776 ∧ m ≤ 20 ∧ i = .int .u64 (X : Int) ∧ v = .slice (some ⟨g4, 0, none⟩) m c4 ∧ Hid (X < 128 ^ (f + 1)) ∧ Hid (m + f = 10) ∧ Hid (pre ++ uvf f X = uv N) ∧ Hid (wr.ownsRow w.heap.size 5 1 (.slice (some ⟨g4, 0, none⟩) m c4) m (pre.map B)) ∧ Hid (Below w.heap.size w wr)) (fun i _ _ => (intOf i).toNat)
 case atStart => exact ⟨N, 10, 0, _, _, [], hN, by omega, rfl, rfl, Lib.hid (Nat.lt_of_le_of_lt hN (by decide)), Lib.hid rfl, Lib.hid rfl, HO0, HX0⟩
 case round =>
  obtain ⟨X, f, m, g4, c4, pre, hX, hm, rfl, rfl, hf, hmf, hp, ho, hb⟩ := hrel
  obtain ⟨wx, hwx⟩ : ∃ x, x = wr := ⟨_, rfl⟩
  rw [← hwx] at ho hb ⊢
  clear hwx
  by_cases hlt : 127 < X
  ·
   obtain ⟨f, rfl⟩ : ∃ k, f = k + 1 := by
    cases f with
    | zero => exfalso; have := hf.out; simp at this; omega
    | succ k => exact ⟨k, rfl⟩
   obtain ⟨y, hy⟩ : ∃ y, y = UInt8.ofNat (X % 128) + 128 := ⟨_, rfl⟩
   have hy2 : UInt8.ofNat (X % 128) + 128 = y := hy.symm
   have HBB := Lib.hid (hb.out.alloc hb.out.size (.cells #[B y] 5))
   have HOO := Lib.hid (ho.out.kept (World.grownBy_alloc wx (.cells #[B y] 5) none) (by simp [Value.ownBlock]))
   have HBK : Hid (Blk (wx.alloc (.cells #[B y] 5)) wx.heap.size 5 #[B y]) := Lib.hid (Blk.new wx 5 #[B y])
   have HP : Hid ((pre ++ [y]) ++ uvf f (X / 128) = uv N) := Lib.hid (by
    rw [← hp.out, uvf_more f X (by omega), hy, low_of, List.append_assoc, Nat.shiftRight_eq_div_pow]; rfl)
   have HF : Hid (X / 128 < 128 ^ (f + 1)) := Lib.hid (by
    have h1 := hf.out
    rw [Nat.pow_succ] at h1
    exact Nat.div_lt_of_lt_mul (by rw [Nat.mul_comm]; exact h1))
   have h0 : (0 : Int) ≤ (X : Int) := by omega
   have hm9 : m ≤ 9 := by have := hmf.out; omega
   clear hy
   go_wp2_with (first
    | ((with_reducible show OpW 9); refine wpList_remN _ rfl (.tmp 8) _ 144 144 rfl X 128 _ 128 rfl rfl rfl rfl (by decide) ?_)
    | ((with_reducible show OpW 10); refine wpList_u8N _ rfl (.tmp 9) 144 5 rfl _ .u64 Try.underlying144 Try.underlying5 _ _ rfl rfl ?_)
    | ((with_reducible show OpW 13); refine wpList_app1 _ rfl (.tmp 7) (.tmp 12) 114 5 (.int .u8 0) 1 Try.underlying114 infoU8 rfl rfl w.heap.size _ m _ rfl HOO.out wx.heap.size 1 5 (B y) rfl HBK.out rfl (by omega) (by omega) HBB.out.size ?_; intro v6 w6 hpp))
   obtain ⟨g6, c6, rfl⟩ := hpp.form (by omega)
   have HO6 : Hid (w6.ownsRow w.heap.size 5 1 (.slice (some ⟨g6, 0, none⟩) (m + 1) c6) (m + 1) ((pre ++ [y]).map B)) := Lib.hid (by have := hpp.own; rw [List.map_append]; exact this)
   have HB6 := Lib.hid (hpp.below HOO.out HBB.out (Nat.le_refl _) HBB.out.size)
   clear hpp
   go_roundw
   case rel => exact ⟨X / 128, f, m + 1, _, _, pre ++ [y], by omega, by omega, by go_num, rfl, HF, Lib.hid (by have := hmf.out; omega), HP, HO6, HB6⟩
   case measure => simp [intOf]; omega
  ·
   obtain ⟨y, hy⟩ : ∃ y, y = UInt8.ofNat X := ⟨_, rfl⟩
   have hy2 : UInt8.ofNat X = y := hy.symm
   have HBB := Lib.hid (hb.out.alloc hb.out.size (.cells #[B y] 5))
   have HOO := Lib.hid (ho.out.kept (World.grownBy_alloc wx (.cells #[B y] 5) none) (by simp [Value.ownBlock]))
   have HBK : Hid (Blk (wx.alloc (.cells #[B y] 5)) wx.heap.size 5 #[B y]) := Lib.hid (Blk.new wx 5 #[B y])
   have HP : Hid (pre ++ [y] = uv N) := Lib.hid (by rw [← hp.out, uvf_small f X (by omega), hy])
   clear hy
   go_wp2_with (first
    | ((with_reducible show OpW 18); refine wpList_u8N _ rfl (.tmp 17) 144 5 rfl _ .u64 Try.underlying144 Try.underlying5 _ _ rfl rfl ?_)
    | ((with_reducible show OpW 20); refine wpList_app1 _ rfl (.tmp 16) (.tmp 19) 114 5 (.int .u8 0) 1 Try.underlying114 infoU8 rfl rfl w.heap.size _ m _ rfl HOO.out wx.heap.size 1 5 (B y) rfl HBK.out rfl (by omega) (by omega) HBB.out.size ?_; intro v6 w6 hpp))
   obtain ⟨g6, c6, rfl⟩ := hpp.form (by omega)
   have HO6 : Hid (w6.ownsRow w.heap.size 5 1 (.slice (some ⟨g6, 0, none⟩) (m + 1) c6) (m + 1) ((uv N).map B)) := Lib.hid (by have := hpp.own; rw [← HP.out, List.map_append]; exact this)
   have HB6 := Lib.hid (hpp.below HOO.out HBB.out (Nat.le_refl _) HBB.out.size)
   clear hpp
   go_ret
   exact ⟨⟨g6, m + 1, c6, rfl, by have := HO6.out.1; simpa using this.symm, HO6.out⟩, HB6.out⟩
end Go.Proofs.Ytboglaokdgnpaaa
