/- Several texts in one: Rnv, Hh. -/
import Derived.Test.YtheijpjfpaghfaaGreatDoorC15
import Derived.Test.YtheijpjfpaghfaaGreatDoorC26
/- Contract of ref01.Number, for all numbers (out of Rnu of chapter 49). -/
namespace Go.Proofs.YtheijpjfpaghfaaGreatDoor
open Go Go.RowKit Gf Sha

attribute [local go_sem] add128

set_option maxRecDepth 100000 in
set_option maxHeartbeats 1000000 in
theorem rnum_big (N : Nat) (w : World) (hN : N ≤ 18446744073709551615) :
  Calls Tryz.prog 81 #[.int .u64 (N : Int)] w fun e w' => (∃ g m c', e = .returned (.slice (some ⟨g, 0, none⟩) m c') ∧ m = (uv N).length ∧ w'.ownsRow w.heap.size 5 1 (.slice (some ⟨g, 0, none⟩) m c') m ((uv N).map B)) ∧ Below w.heap.size w w' := by
 have HO0 : Hid ((w.alloc (.cells #[] 5)).ownsRow w.heap.size 5 1 (.slice (some ⟨w.heap.size, 0, none⟩) 0 0) 0 (([] : List UInt8).map B)) := Lib.hid (BL.own (BL.new w 5 []) (Nat.le_refl _) rfl (by decide))
 have HX0 : Hid (Below w.heap.size w (w.alloc (.cells #[] 5))) := Lib.hid ((Below.refl _ _).alloc (Nat.le_refl _) _)
 go_enter Tryz.func81, Tryz.ntmps81
 go_wp2_with fail
 go_loopw [0, 3] (fun i v wr => ∃ (X f m g4 c4 : Nat) (pre : List UInt8), X ≤ 18446744073709551615 ∧ m ≤ 20 ∧ i = .int .u64 (X : Int) ∧ v = .slice (some ⟨g4, 0, none⟩) m c4 ∧ Hid (X < 128 ^ (f + 1)) ∧ Hid (m + f = 10) ∧ Hid (pre ++ uvf f X = uv N) ∧ Hid (wr.ownsRow w.heap.size 5 1 (.slice (some ⟨g4, 0, none⟩) m c4) m (pre.map B)) ∧ Hid (Below w.heap.size w wr)) (fun i _ _ => (intOf i).toNat)
 case atStart => exact ⟨N, 10, 0, _, _, [], hN, by omega, rfl, rfl, Lib.hid (Nat.lt_of_le_of_lt hN (by decide)), Lib.hid rfl, Lib.hid rfl, HO0, HX0⟩
 case round =>
  obtain ⟨X, f, m, g4, c4, pre, hX, hm, rfl, rfl, hf, hmf, hp, ho, hb⟩ := hrel
  obtain ⟨wx, hwx⟩ : ∃ x, x = wr := ⟨_, rfl⟩
  rw [← hwx] at ho hb ⊢
  clear hwx
  by_cases hlt : 127 < X
  ·
   obtain ⟨f, rfl⟩ : ∃ k, f = k + 1 := by
    cases f with
    | zero => exfalso; have := hf.out; simp at this; omega
    | succ k => exact ⟨k, rfl⟩
   obtain ⟨y, hy⟩ : ∃ y, y = UInt8.ofNat (X % 128) + 128 := ⟨_, rfl⟩
   have hy2 : UInt8.ofNat (X % 128) + 128 = y := hy.symm
   have HBB := Lib.hid (hb.out.alloc hb.out.size (.cells #[B y] 5))
   have HOO := Lib.hid (ho.out.kept (World.grownBy_alloc wx (.cells #[B y] 5) none) (by simp [Value.ownBlock]))
   have HBK : Hid (Blk (wx.alloc (.cells #[B y] 5)) wx.heap.size 5 #[B y]) := Lib.hid (Blk.new wx 5 #[B y])
   have HP : Hid ((pre ++ [y]) ++ uvf f (X / 128) = uv N) := Lib.hid (by
    rw [← hp.out, uvf_more f X (by omega), hy, low_of, List.append_assoc, Nat.shiftRight_eq_div_pow]; rfl)
   have HF : Hid (X / 128 < 128 ^ (f + 1)) := Lib.hid (by
    have h1 := hf.out
    rw [Nat.pow_succ] at h1
    exact Nat.div_lt_of_lt_mul (by rw [Nat.mul_comm]; exact h1))
   have h0 : (0 : Int) ≤ (X : Int) := by omega
   have hm9 : m ≤ 9 := by have := hmf.out; omega
   clear hy
   go_wp2_with (first
    | ((with_reducible show OpW 9); refine wpList_remN _ rfl (.tmp 8) _ 98 98 rfl X 128 _ 128 rfl rfl rfl rfl (by decide) ?_)
    | ((with_reducible show OpW 10); refine wpList_u8N _ rfl (.tmp 9) 98 5 rfl _ .u64 Tryz.underlying98 Tryz.underlying5 _ _ rfl rfl ?_)
    | ((with_reducible show OpW 13); refine wpList_app1 _ rfl (.tmp 7) (.tmp 12) 22 5 (.int .u8 0) 1 Tryz.underlying22 infoU8 rfl rfl w.heap.size _ m _ rfl HOO.out wx.heap.size 1 5 (B y) rfl HBK.out rfl (by omega) (by omega) HBB.out.size ?_; intro v6 w6 hpp))
   obtain ⟨g6, c6, rfl⟩ := hpp.form (by omega)
   have HO6 : Hid (w6.ownsRow w.heap.size 5 1 (.slice (some ⟨g6, 0, none⟩) (m + 1) c6) (m + 1) ((pre ++ [y]).map B)) := Lib.hid (by have := hpp.own; rw [List.map_append]; exact this)
   have HB6 := Lib.hid (hpp.below HOO.out HBB.out (Nat.le_refl _) HBB.out.size)
   clear hpp
   go_roundw
   case rel => exact ⟨X / 128, f, m + 1, _, _, pre ++ [y], by omega, by omega, by go_num, rfl, HF, Lib.hid (by have := hmf.out; omega), HP, HO6, HB6⟩
   case measure => simp [intOf]; omega
  ·
   obtain ⟨y, hy⟩ : ∃ y, y = UInt8.ofNat X := ⟨_, rfl⟩
   have hy2 : UInt8.ofNat X = y := hy.symm
   have HBB := Lib.hid (hb.out.alloc hb.out.size (.cells #[B y] 5))
   have HOO := Lib.hid (ho.out.kept (World.grownBy_alloc wx (.cells #[B y] 5) none) (by simp [Value.ownBlock]))
   have HBK : Hid (Blk (wx.alloc (.cells #[B y] 5)) wx.heap.size 5 #[B y]) := Lib.hid (Blk.new wx 5 #[B y])
   have HP : Hid (pre ++ [y] = uv N) := Lib.hid (by rw [← hp.out, uvf_small f X (by omega), hy])
   clear hy
   go_wp2_with (first
    | ((with_reducible show OpW 18); refine wpList_u8N _ rfl (.tmp 17) 98 5 rfl _ .u64 Tryz.underlying98 Tryz.underlying5 _ _ rfl rfl ?_)
    | ((with_reducible show OpW 20); refine wpList_app1 _ rfl (.tmp 16) (.tmp 19) 22 5 (.int .u8 0) 1 Tryz.underlying22 infoU8 rfl rfl w.heap.size _ m _ rfl HOO.out wx.heap.size 1 5 (B y) rfl HBK.out rfl (by omega) (by omega) HBB.out.size ?_; intro v6 w6 hpp))
   obtain ⟨g6, c6, rfl⟩ := hpp.form (by omega)
   have HO6 : Hid (w6.ownsRow w.heap.size 5 1 (.slice (some ⟨g6, 0, none⟩) (m + 1) c6) (m + 1) ((uv N).map B)) := Lib.hid (by have := hpp.own; rw [← HP.out, List.map_append]; exact this)
   have HB6 := Lib.hid (hpp.below HOO.out HBB.out (Nat.le_refl _) HBB.out.size)
   clear hpp
   go_ret
   exact ⟨⟨g6, m + 1, c6, rfl, by have := HO6.out.1; simpa using this.symm, HO6.out⟩, HB6.out⟩
end Go.Proofs.YtheijpjfpaghfaaGreatDoor
/- ref01.number. -/
namespace Go.Proofs.YtheijpjfpaghfaaGreatDoor
open Go Go.RowKit Gf Sha

section
variable {P : Program} (w : World) {ops : Array Oper} {rest : List Oper} {o : Oper} {a : Act} {Q : Exit → Act → World → Prop}
end
end Go.Proofs.YtheijpjfpaghfaaGreatDoor
