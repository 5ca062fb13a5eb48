/- Several texts in one: Rnv, Hh. -/
import Derived.Test.YtheijpjfpaghfaaGreatDoorC15
import Derived.Test.YtheijpjfpaghfaaGreatDoorC26
/- Contract of ref01.Number, for all numbers (out of Rnu of chapter 49). -/
namespace Go.Proofs.YtheijpjfpaghfaaGreatDoor
open Go Go.RowKit Gf Sha

attribute [local go_sem] add128

set_option maxRecDepth 100000 in
set_option maxHeartbeats 1000000 in
theorem rnum_big (N : Nat) (w : World) (hN : N ≤ 18446744073709551615) :
    Calls Tryz.prog 81 #[.int .u64 (N : Int)] w fun e w' => (∃ g m c', e = .returned (.slice (some ⟨g, 0, none⟩) m c') ∧ m = (uv N).length ∧ w'.ownsRow w.heap.size 5 1 (.slice (some ⟨g, 0, none⟩) m c') m ((uv N).map B)) ∧ Below w.heap.size w w' := by
  have HO0 : Hid ((w.alloc (.cells #[] 5)).ownsRow w.heap.size 5 1 (.slice (some ⟨w.heap.size, 0, none⟩) 0 0) 0 (([] : List UInt8).map B)) := Lib.hid (BL.own (BL.new w 5 []) (Nat.le_refl _) rfl (by decide))
  have HX0 : Hid (Below w.heap.size w (w.alloc (.cells #[] 5))) := Lib.hid ((Below.refl _ _).alloc (Nat.le_refl _) _)
  go_enter Tryz.func81, Tryz.ntmps81
  go_wp2_with fail
  go_loopw [0, 3] (fun i v wr => ∃ (X f m g4 c4 : Nat) (pre : List UInt8), X ≤ 18446744073709551615 ∧ m ≤ 20 ∧ i = .int .u64 (X : Int) ∧ v = .slice (some ⟨g4, 0, none⟩) m c4 ∧ Hid (X < 128 ^ (f + 1)) ∧ Hid (m + f = 10) ∧ Hid (pre ++ uvf f X = uv N) ∧ Hid (wr.ownsRow w.heap.size 5 1 (.slice (some ⟨g4, 0, none⟩) m c4) m (pre.map B)) ∧ Hid (Below w.heap.size w wr)) (fun i _ _ => (intOf i).toNat)
  case atStart => exact ⟨N, 10, 0, _, _, [], hN, by omega, rfl, rfl, Lib.hid (Nat.lt_of_le_of_lt hN (by decide)), Lib.hid rfl, Lib.hid rfl, HO0, HX0⟩
  case round =>
    obtain ⟨X, f, m, g4, c4, pre, hX, hm, rfl, rfl, hf, hmf, hp, ho, hb⟩ := hrel
    obtain ⟨wx, hwx⟩ : ∃ x, x = wr := ⟨_, rfl⟩
    rw [← hwx] at ho hb ⊢
    clear hwx
    by_cases hlt : 127 < X
    · obtain ⟨f, rfl⟩ : ∃ k, f = k + 1 := by
        cases f with
        | zero => exfalso; have := hf.out; simp at this; omega
        | succ k => exact ⟨k, rfl⟩
      obtain ⟨y, hy⟩ : ∃ y, y = UInt8.ofNat (X % 128) + 128 := ⟨_, rfl⟩
      have hy2 : UInt8.ofNat (X % 128) + 128 = y := hy.symm
      have HBB := Lib.hid (hb.out.alloc hb.out.size (.cells #[B y] 5))
      have HOO := Lib.hid (ho.out.kept (World.grownBy_alloc wx (.cells #[B y] 5) none) (by simp [Value.ownBlock]))
      have HBK : Hid (Blk (wx.alloc (.cells #[B y] 5)) wx.heap.size 5 #[B y]) := Lib.hid (Blk.new wx 5 #[B y])
      have HP : Hid ((pre ++ [y]) ++ uvf f (X / 128) = uv N) := Lib.hid (by
        rw [← hp.out, uvf_more f X (by omega), hy, low_of, List.append_assoc, Nat.shiftRight_eq_div_pow]; rfl)
      have HF : Hid (X / 128 < 128 ^ (f + 1)) := Lib.hid (by
        have h1 := hf.out
        rw [Nat.pow_succ] at h1
        exact Nat.div_lt_of_lt_mul (by rw [Nat.mul_comm]; exact h1))
      have h0 : (0 : Int) ≤ (X : Int) := by omega
      have hm9 : m ≤ 9 := by have := hmf.out; omega
      clear hy
      go_wp2_with (first
        | ((with_reducible show wpList _ _ _ (⟨some 9, _, _, _, _, _⟩ :: _) _ _); refine wpList_remN _ rfl (.tmp 8) _ 98 98 rfl X 128 _ 128 rfl rfl rfl rfl (by decide) ?_)
        | ((with_reducible show wpList _ _ _ (⟨some 10, _, _, _, _, _⟩ :: _) _ _); refine wpList_u8N _ rfl (.tmp 9) 98 5 rfl _ .u64 Tryz.underlying98 Tryz.underlying5 _ _ rfl rfl ?_)
        | ((with_reducible show wpList _ _ _ (⟨some 13, _, _, _, _, _⟩ :: _) _ _); refine wpList_app1 _ rfl (.tmp 7) (.tmp 12) 22 5 (.int .u8 0) 1 Tryz.underlying22 infoU8 rfl rfl w.heap.size _ m _ rfl HOO.out wx.heap.size 1 5 (B y) rfl HBK.out rfl (by omega) (by omega) HBB.out.size ?_; intro v6 w6 hpp))
      obtain ⟨g6, c6, rfl⟩ := hpp.form (by omega)
      have HO6 : Hid (w6.ownsRow w.heap.size 5 1 (.slice (some ⟨g6, 0, none⟩) (m + 1) c6) (m + 1) ((pre ++ [y]).map B)) := Lib.hid (by have := hpp.own; rw [List.map_append]; exact this)
      have HB6 := Lib.hid (hpp.below HOO.out HBB.out (Nat.le_refl _) HBB.out.size)
      clear hpp
      go_roundw
      case rel => exact ⟨X / 128, f, m + 1, _, _, pre ++ [y], by omega, by omega, by go_num, rfl, HF, Lib.hid (by have := hmf.out; omega), HP, HO6, HB6⟩
      case measure => simp [intOf]; omega
    · obtain ⟨y, hy⟩ : ∃ y, y = UInt8.ofNat X := ⟨_, rfl⟩
      have hy2 : UInt8.ofNat X = y := hy.symm
      have HBB := Lib.hid (hb.out.alloc hb.out.size (.cells #[B y] 5))
      have HOO := Lib.hid (ho.out.kept (World.grownBy_alloc wx (.cells #[B y] 5) none) (by simp [Value.ownBlock]))
      have HBK : Hid (Blk (wx.alloc (.cells #[B y] 5)) wx.heap.size 5 #[B y]) := Lib.hid (Blk.new wx 5 #[B y])
      have HP : Hid (pre ++ [y] = uv N) := Lib.hid (by rw [← hp.out, uvf_small f X (by omega), hy])
      clear hy
      go_wp2_with (first
        | ((with_reducible show wpList _ _ _ (⟨some 18, _, _, _, _, _⟩ :: _) _ _); refine wpList_u8N _ rfl (.tmp 17) 98 5 rfl _ .u64 Tryz.underlying98 Tryz.underlying5 _ _ rfl rfl ?_)
        | ((with_reducible show wpList _ _ _ (⟨some 20, _, _, _, _, _⟩ :: _) _ _); refine wpList_app1 _ rfl (.tmp 16) (.tmp 19) 22 5 (.int .u8 0) 1 Tryz.underlying22 infoU8 rfl rfl w.heap.size _ m _ rfl HOO.out wx.heap.size 1 5 (B y) rfl HBK.out rfl (by omega) (by omega) HBB.out.size ?_; intro v6 w6 hpp))
      obtain ⟨g6, c6, rfl⟩ := hpp.form (by omega)
      have HO6 : Hid (w6.ownsRow w.heap.size 5 1 (.slice (some ⟨g6, 0, none⟩) (m + 1) c6) (m + 1) ((uv N).map B)) := Lib.hid (by have := hpp.own; rw [← HP.out, List.map_append]; exact this)
      have HB6 := Lib.hid (hpp.below HOO.out HBB.out (Nat.le_refl _) HBB.out.size)
      clear hpp
      go_ret
      exact ⟨⟨g6, m + 1, c6, rfl, by have := HO6.out.1; simpa using this.symm, HO6.out⟩, HB6.out⟩
end Go.Proofs.YtheijpjfpaghfaaGreatDoor
/- ref01.number. -/
namespace Go.Proofs.YtheijpjfpaghfaaGreatDoor
open Go Go.RowKit Gf Sha

section
variable {P : Program} (w : World) {ops : Array Oper} {rest : List Oper} {o : Oper} {a : Act} {Q : Exit → Act → World → Prop}
/-- x % y, of bytes. -/
theorem wpList_remB (hg : o.guard = none) (x y : Operand) (t t2 : TypeId) (hop : o.op = .binOp .rem t x y t2) (X Y : Nat) (zx zy : Int) (hx : a.eval x = .int .u8 zx) (hy : a.eval y = .int .u8 zy) (hX : zx = (X : Int)) (hY : zy = (Y : Int)) (hY0 : 0 < Y)
    (h : wpList P ops Q rest (a.put o.dst (.int .u8 ((X % Y : Nat) : Int))) w) : wpList P ops Q (o :: rest) a w :=
  wpList_plain hg fun K hK => by
    subst hX hY
    have e : ∀ w', (binOp .rem t (.int .u8 (X : Int)) (.int .u8 (Y : Int))).run P w' = .ok (.int .u8 ((X % Y : Nat) : Int)) w' := fun w' => by
      have hne : ¬ Y = 0 := by omega
      show (Op.intDiv .rem .u8 (X : Int) (Y : Int)).run P w' = _
      unfold Op.intDiv
      simp [hne]
      exact Int.tmod_eq_emod_of_nonneg (by omega)
    unfold Oper.wp execOp
    simp only [hop, hx, hy]
    simp [eqGuard, Result.andThen, e]
    exact hK _ _ (by simpa using h)
end
theorem first_skip {b : List UInt8} {j : Nat} (h : firstK b = (firstK (b.drop j)).map (· + j)) (hj : j < b.length) (hb : ¬ (gB b j).toNat < 128) : firstK b = (firstK (b.drop (j + 1))).map (· + (j + 1)) := by
  rw [h, drop_cons hj, firstK, if_neg hb, Option.map_map]
  congr 1
  funext x
  show x + 1 + j = x + (j + 1)
  omega
theorem first_here {b : List UInt8} {j : Nat} (h : firstK b = (firstK (b.drop j)).map (· + j)) (hj : j < b.length) (hb : (gB b j).toNat < 128) : firstK b = some (j + 1) := by
  rw [h, drop_cons hj, firstK, if_pos hb]
  show some (1 + j) = _
  rw [Nat.add_comm]
theorem first_late {b : List UInt8} (h : firstK b = (firstK (b.drop 10)).map (· + 10)) : ∀ k, firstK b = some k → ¬ k ≤ 10 := by
  intro k hk
  rw [h] at hk
  cases hf : firstK (b.drop 10) with
  | none => rw [hf] at hk; cases hk
  | some q =>
    rw [hf] at hk
    have e : q + 10 = k := Option.some.inj hk
    have hq : 1 ≤ q := by
      cases hd : b.drop 10 with
      | nil => rw [hd] at hf; cases hf
      | cons x r =>
        rw [hd, firstK] at hf
        split at hf
        · cases hf; exact Nat.le_refl _
        · cases hr : firstK r with
          | none => rw [hr] at hf; cases hf
          | some z => rw [hr] at hf; have h9 : z + 1 = q := Option.some.inj hf; omega
    omega
theorem first_end {b : List UInt8} {j : Nat} (h : firstK b = (firstK (b.drop j)).map (· + j)) (hj : b.length ≤ j) : firstK b = none := by
  rw [h, List.drop_eq_nil_of_le hj]; rfl
theorem val_step {l : List UInt8} {i : Nat} (h : i < l.length) : valL (l.drop i) = (gB l i).toNat % 128 + 128 * valL (l.drop (i + 1)) := by
  rw [drop_cons h]; rfl
theorem gB_take {b : List UInt8} {k i : Nat} (hi : i < k) (hk : k ≤ b.length) : gB (b.take k) i = gB b i := by
  rw [gB_eq (by rw [List.length_take]; omega), gB_eq (by omega), List.getElem_take]
/-- The reference's number, plainly. -/
def numF (r : List UInt8) : Option (Nat × Nat) :=
  match firstK r with
  | some k => if k ≤ 10 then (if uv (valL (r.take k) % 18446744073709551616) = r.take k then some (valL (r.take k) % 18446744073709551616, k) else none) else none
  | none => none
theorem numF_num (r : List UInt8) : numF r = num r := by
  cases h : num r with
  | some x =>
    obtain ⟨v, k⟩ := x
    have hv : v < 18446744073709551616 := num_bound 10 0 0 r v k rfl (by decide) h
    have h1 := num_enc h hv
    have hk : k = (uv v).length := by
      have e : r = uv v ++ r.drop k := by rw [← h1, List.take_append_drop]
      have h2 := num_of v (r.drop k) hv
      rw [← e, h] at h2
      exact (Prod.mk.inj (Option.some.inj h2)).2
    have hvv : v < 128 ^ (9 + 1) := Nat.lt_of_lt_of_le hv (by decide)
    have hf : firstK r = some k := by
      have h2 := first_uvf 10 v (r.drop k) (Nat.lt_of_lt_of_le hvv (by decide))
      rw [show uvf 10 v = uv v from rfl, ← hk] at h2
      rw [← h1, List.take_append_drop] at h2
      exact h2
    have h6 : k ≤ 10 := by rw [hk]; exact uvf_short 9 10 v (by decide) hvv
    have hval : valL (uv v) = v := val_uvf 10 v (Nat.lt_of_lt_of_le hvv (by decide))
    simp only [numF, hf, if_pos h6, h1, hval, Nat.mod_eq_of_lt hv, if_true]
  | none =>
    cases hf : firstK r with
    | none => simp only [numF, hf]
    | some k =>
      by_cases h6 : k ≤ 10
      · by_cases he : uv (valL (r.take k) % 18446744073709551616) = r.take k
        · exfalso
          have e : r = uv (valL (r.take k) % 18446744073709551616) ++ r.drop k := by rw [he, List.take_append_drop]
          have h3 := num_of (valL (r.take k) % 18446744073709551616) (r.drop k) (Nat.mod_lt _ (by decide))
          rw [← e, h] at h3
          cases h3
        · simp only [numF, hf, if_pos h6, if_neg he]
      · simp only [numF, hf, if_neg h6]
theorem numF_at {r : List UInt8} {k : Nat} (h : firstK r = some k) (hk : k ≤ 10) : numF r = if uv (valL (r.take k) % 18446744073709551616) = r.take k then some (valL (r.take k) % 18446744073709551616, k) else none := by
  unfold numF; rw [h]; simp only [if_pos hk]
theorem numF_late {r : List UInt8} (h : firstK r = (firstK (r.drop 10)).map (· + 10)) : numF r = none := by
  unfold numF
  cases hf : firstK r with
  | none => rfl
  | some k => simp only [if_neg (first_late h k hf)]
theorem numF_end {r : List UInt8} {j : Nat} (h : firstK r = (firstK (r.drop j)).map (· + j)) (hj : r.length ≤ j) : numF r = none := by
  unfold numF; rw [first_end h hj]
theorem gB_drop {b : List UInt8} {a q : Nat} (h : a + q < b.length) : gB (b.drop a) q = gB b (a + q) := by
  rw [gB_eq (by rw [List.length_drop]; omega), gB_eq h, List.getElem_drop]
theorem take_ext {u r : List UInt8} {k : Nat} (hu : u.length = k) (hk : k ≤ r.length) (h : ∀ q, q < k → gB u q = gB r q) : u = r.take k := by
  refine List.ext_getElem (by rw [List.length_take]; omega) (fun q h1 h2 => ?_)
  have h9 := h q (by omega)
  rw [gB_eq h1, gB_eq (by rw [List.length_take] at h2; omega)] at h9
  rw [h9, List.getElem_take]
def numV (a : Nat) : Option (Nat × Nat) → Value
  | some x => .tuple #[.int .u64 (x.1 : Int), .int .i64 ((a + x.2 : Nat) : Int), .bool true]
  | none => .tuple #[.int .u64 0, .int .i64 0, .bool false]
set_option maxRecDepth 100000 in
set_option maxHeartbeats 4000000 in
theorem rnumber_any (A : Option Addr) (n c : Nat) (b : List UInt8) (a : Nat) (w : World) (h : BS w A n c b) (ha : a ≤ n) :
    Calls Tryz.prog 97 #[.slice A n c, .int .i64 (a : Int)] w fun e w' => e = .returned (numV a (num (b.drop a))) ∧ Below w.heap.size w w' := by
  have H := Lib.hid h
  have HL := Lib.hid h.1
  have hn9 := h.len_le
  clear h
  obtain ⟨r, hr⟩ : ∃ r, r = b.drop a := ⟨_, rfl⟩
  rw [← hr]
  have HRD := Lib.hid hr
  have HRL : Hid (r.length = n - a) := Lib.hid (by rw [hr, List.length_drop, HL.out])
  have HGB : Hid (∀ q, q < n - a → gB r q = gB b (a + q)) := Lib.hid (fun q hq => by rw [hr]; exact gB_drop (by rw [HL.out]; omega))
  have HNF := Lib.hid (numF_num r)
  clear hr
  go_enter Tryz.func97, Tryz.ntmps97
  go_wp2_with fail
  go_loopw [7] (fun kv wr => w = wr ∧ ∃ k : Nat, 1 ≤ k ∧ k ≤ 11 ∧ kv = .int .i64 (k : Int) ∧ Hid (firstK r = (firstK (r.drop (k - 1))).map (· + (k - 1)))) (fun kv _ => 11 - (intOf kv).toNat)
  case atStart => exact ⟨rfl, 1, by omega, by omega, rfl, Lib.hid (by show firstK r = (firstK r).map (· + 0); simp)⟩
  case round =>
    obtain ⟨rfl, k, hk1, hk7, rfl, hf⟩ := hrel
    by_cases h6 : k ≤ 10
    rotate_left
    · have HE : Hid (num r = none) := Lib.hid (by
        rw [← HNF.out]
        exact numF_late (by
          have := hf.out
          rwa [show k - 1 = 10 by omega] at this))
      go_wp2_with fail
      go_ret3
      rw [HE.out]
      exact ⟨rfl, Below.refl _ _⟩
    by_cases hkn : a + k ≤ n
    rotate_left
    · have HE : Hid (num r = none) := Lib.hid (by
        rw [← HNF.out]
        exact numF_end hf.out (by rw [HRL.out]; omega))
      have fkn : decide ((a : Int) + (k : Int) ≤ (n : Int)) = false := decide_eq_false (by omega)
      go_wp2_with fail
      go_ret3
      rw [HE.out]
      exact ⟨rfl, Below.refl _ _⟩
    have fkn : decide ((a : Int) + (k : Int) ≤ (n : Int)) = true := decide_eq_true (by omega)
    obtain ⟨j, hj⟩ : ∃ j, j = k - 1 := ⟨_, rfl⟩
    obtain ⟨p, hp⟩ : ∃ p, p = a + j := ⟨_, rfl⟩
    obtain ⟨g, o, rfl, q0⟩ := H.out.at_ (Below.refl _ _) (show p < n by omega)
    rw [← hj] at hf
    have hj1 : (a : Int) + (k : Int) - 1 = (p : Int) := by omega
    have hpn : (p : Int) < (n : Int) := by omega
    have HJ : Hid (j < r.length) := Lib.hid (by rw [HRL.out]; omega)
    have HJK : Hid (j + 1 = k) := Lib.hid (by omega)
    obtain ⟨y, hy⟩ : ∃ y, y = gB b p := ⟨_, rfl⟩
    rw [← hy] at q0
    have HY : Hid (gB r j = y) := Lib.hid (by rw [HGB.out j (by omega), hy, hp])
    clear hy
    by_cases hb : y.toNat < 128
    rotate_left
    · have f1 : decide ((128 : Int) ≤ bv y) = true := decide_eq_true (by rw [bv_nat]; omega)
      have HF : Hid (firstK r = (firstK (r.drop (j + 1))).map (· + (j + 1))) := Lib.hid (first_skip hf.out HJ.out (by rw [HY.out]; exact hb))
      clear hb hj hp
      go_wp2_with fail
      go_roundw
      case rel => exact ⟨trivial, k + 1, by omega, by omega, by go_num, Lib.hid (by rw [show k + 1 - 1 = j + 1 by have := HJK.out; omega]; exact HF.out)⟩
      case measure => simp [intOf]; omega
    · have f1 : decide ((128 : Int) ≤ bv y) = false := decide_eq_false (by rw [bv_nat]; omega)
      have HF : Hid (firstK r = some k) := Lib.hid (by rw [← HJK.out]; exact first_here hf.out HJ.out (by rw [HY.out]; exact hb))
      have HTK : Hid ((r.take k).length = k) := Lib.hid (by rw [List.length_take, HRL.out]; omega)
      have HE : Hid (num r = if uv (valL (r.take k) % 18446744073709551616) = r.take k then some (valL (r.take k) % 18446744073709551616, k) else none) := Lib.hid (by rw [← HNF.out]; exact numF_at HF.out h6)
      clear hb hf hp hj
      go_wp2_with fail
      clear f1 hj1 q0 hpn
      go_loopw [8, 9] (fun nv iv wr => w = wr ∧ ∃ i : Nat, i ≤ k ∧ nv = .int .u64 ((valL ((r.take k).drop i) % 18446744073709551616 : Nat) : Int) ∧ iv = .int .i64 ((i : Int) - 1)) (fun _ iv _ => (intOf iv + 1).toNat)
      case atStart => exact ⟨rfl, k, by omega, by rw [List.drop_eq_nil_of_le (by rw [HTK.out]; exact Nat.le_refl _)]; rfl, by first | rfl | (congr 1; omega)⟩
      case round =>
        obtain ⟨rfl, i, hik, rfl, rfl⟩ := hrel
        rcases Nat.eq_zero_or_pos i with rfl | hp
        rotate_left
        · obtain ⟨t, rfl⟩ : ∃ t, i = t + 1 := ⟨i - 1, by omega⟩
          rw [show (((t + 1 : Nat) : Int) - 1) = (t : Int) by omega]
          obtain ⟨M, hM⟩ : ∃ M, M = valL ((r.take k).drop (t + 1)) % 18446744073709551616 := ⟨_, rfl⟩
          obtain ⟨g', o', e', q2⟩ := H.out.at_ (Below.refl _ _) (show a + t < n by omega)
          cases e'
          obtain ⟨z, hz⟩ : ∃ z, z = gB b (a + t) := ⟨_, rfl⟩
          rw [← hz] at q2
          obtain ⟨u, hu⟩ : ∃ u, u = a + t := ⟨_, rfl⟩
          rw [← hu] at q2
          have hau : (a : Int) + (t : Int) = (u : Int) := by omega
          have hun : (u : Int) < (n : Int) := by omega
          have HV : Hid ((M * 128 + z.toNat % 128) % 18446744073709551616 = valL ((r.take k).drop t) % 18446744073709551616) := Lib.hid (by
            rw [val_step (by rw [HTK.out]; omega), hM, gB_take (by omega) (by rw [HRL.out]; omega), HGB.out t (by omega), ← hz]; omega)
          have fm : IntKind.u64.wrap ((M : Int) * 128) = ((M * 128 % 18446744073709551616 : Nat) : Int) := by show ((M : Int) * 128) % 18446744073709551616 = _; omega
          have fa : IntKind.u64.wrap (((M * 128 % 18446744073709551616 : Nat) : Int) + (z.toNat : Int) % 128) = (((M * 128 + z.toNat % 128) % 18446744073709551616 : Nat) : Int) := by
            show (((M * 128 % 18446744073709551616 : Nat) : Int) + (z.toNat : Int) % 128) % 18446744073709551616 = _; omega
          obtain ⟨M1, hM1⟩ : ∃ M1, M1 = M * 128 % 18446744073709551616 := ⟨_, rfl⟩
          rw [← hM1] at fm fa
          obtain ⟨M2, hM2⟩ : ∃ M2, M2 = (M * 128 + z.toNat % 128) % 18446744073709551616 := ⟨_, rfl⟩
          rw [← hM2] at fa HV
          rw [← hM]
          clear hM hz hu hM1 hM2
          go_wp2_with (first
            | ((with_reducible show wpList _ _ _ (⟨some 46, _, _, _, _, _⟩ :: _) _ _); refine wpList_remB _ rfl (.tmp 45) _ 5 5 rfl z.toNat 128 _ 128 rfl rfl rfl rfl (by decide) ?_)
            | ((with_reducible show wpList _ _ _ (⟨some 47, _, _, _, _, _⟩ :: _) _ _); refine wpList_convN _ rfl (.tmp 46) 5 98 rfl _ .u8 .u64 Tryz.underlying5 Tryz.underlying98 (z.toNat % 128) _ rfl rfl (by show ((z.toNat % 128 : Nat) : Int) % 18446744073709551616 = _; omega) ?_))
          go_roundw
          case rel => exact ⟨trivial, t, by omega, by rw [← HV.out], rfl⟩
          case measure => simp [intOf]
        · have e0 : ((0 : Nat) : Int) - 1 = -1 := rfl
          obtain ⟨V, hV⟩ : ∃ V, V = valL (r.take k) % 18446744073709551616 := ⟨_, rfl⟩
          have hVlt : V < 18446744073709551616 := by rw [hV]; exact Nat.mod_lt _ (by decide)
          rw [List.drop_zero, ← hV]
          rw [← hV] at HE
          clear hV
          obtain ⟨m, hm⟩ : ∃ m, m = (uv V).length := ⟨_, rfl⟩
          have HM := Lib.hid hm
          have hm20 : m ≤ 20 := by have := (uv_length V).2; omega
          clear hm
          by_cases hmk : m = k
          · have fmk : ((m : Int) != (k : Int)) = false := by rw [hmk]; simp
            go_wp2_with (first
              | (go_at_call 81; refine (rnum_big V w (by omega)).mono ?_; rintro e w2 ⟨⟨g2, m2, c2, rfl, em, ho⟩, hb2⟩; obtain rfl : m = m2 := HM.out.trans em.symm; obtain ⟨A3, c3, ev, hbs⟩ := BS.of_own ho (by unfold lim; omega); cases ev; have HU := Lib.hid hbs; have HB2 := Lib.hid hb2; clear ho hb2 hbs))
            have HTL : Hid (∀ q, q < k → gB r q = gB b (a + q)) := Lib.hid (fun q hq => HGB.out q (by omega))
            have hk20 : k ≤ 20 := by omega
            have hkr : k ≤ r.length := by rw [HRL.out]; omega
            have HKR := Lib.hid hkr
            have hmk2 : (m : Int) = (k : Int) := by omega
            clear hkr
            go_loopw [11] (fun iv wr => ∃ i : Nat, i ≤ k ∧ iv = .int .i64 (i : Int) ∧ Hid (∀ q, q < i → gB (uv V) q = gB r q) ∧ Hid (Below w2.heap.size w2 wr)) (fun iv _ => k - (intOf iv).toNat)
            case atStart => exact ⟨0, by omega, rfl, Lib.hid (fun q h => absurd h (by omega)), Lib.hid (Below.refl _ _)⟩
            case round =>
              obtain ⟨i, hi, rfl, hq, hb⟩ := hrel
              obtain ⟨wx, hwx⟩ : ∃ x, x = wr := ⟨_, rfl⟩
              rw [← hwx] at hb ⊢
              clear hwx
              by_cases hik : i < k
              · have him : i < m := by omega
                obtain ⟨gu, ou, eu, hcu⟩ := HU.out.at_ hb.out him
                obtain ⟨rfl, rfl⟩ : g2 = gu ∧ 0 = ou := by injection eu with eu; injection eu with e1 e2; exact ⟨e1, e2⟩
                rw [Nat.zero_add] at hcu
                obtain ⟨g', o', e', q2⟩ := H.out.at_ (below_then HB2.out hb.out) (show a + i < n by omega)
                cases e'
                obtain ⟨y1, hy1⟩ : ∃ z, z = gB (uv V) i := ⟨_, rfl⟩
                obtain ⟨y2, hy2⟩ : ∃ z, z = gB b (a + i) := ⟨_, rfl⟩
                rw [← hy1] at hcu
                rw [← hy2] at q2
                have HY1 := Lib.hid hy1
                have HY2 : Hid (gB r i = y2) := Lib.hid (by rw [hy2]; exact HTL.out i hik)
                obtain ⟨u, hu⟩ : ∃ u, u = a + i := ⟨_, rfl⟩
                rw [← hu] at q2
                have hau : (a : Int) + (i : Int) = (u : Int) := by omega
                have hun : (u : Int) < (n : Int) := by omega
                have hu0 : (0 : Int) ≤ (u : Int) := by omega
                have huw : IntKind.i64.wrap (u : Int) = (u : Int) := IntWalk.i64_in _ (by omega)
                clear hy1 hy2 hu
                by_cases hyy : y1 = y2
                · have fy : (bv y1 != bv y2) = false := by rw [hyy]; simp
                  have HQ : Hid (∀ q, q < i + 1 → gB (uv V) q = gB r q) := Lib.hid (fun q h9 => by
                    by_cases h8 : q < i
                    · exact hq.out q h8
                    · obtain rfl : q = i := by omega
                      rw [← HY1.out, HY2.out, hyy])
                  clear hyy
                  go_wp2_with fail
                  refine Text.wp_region_text (fun w' => w'.cell? ⟨g2, i, none⟩ = some (B y1) ∧ w'.cell? ⟨g, o + u, none⟩ = some (B y2)) [(0, 4), (1, 4), (2, 4), (4, 4), (5, 4), (6, 4), (7, 4), (8, 4), (3, 0), (9, 0), (10, 4)] (by kernel_rfl) (by kernel_rfl) (fun _ _ _ _ _ h => h) (⟨hcu, q2⟩) ?_
                  iterate 8 (refine Text.purek rfl rfl (fun K hK => ⟨_, fun w' => by go_simp <;> rfl, ?_⟩); go_simp; refine hK _ ?_; clear hK K)
                  iterate 2 (refine Text.heldk rfl rfl (fun K hK => ⟨_, fun w' hw' => by go_simp <;> rfl, ?_⟩); go_simp; refine hK _ ?_; clear hK K)
                  (refine Text.purek rfl rfl (fun K hK => ⟨_, fun w' => by go_simp <;> rfl, ?_⟩); go_simp; refine hK _ ?_; clear hK K)
                  refine Text.done ?_
                  go_wp2_with fail
                  go_roundw
                  case rel => exact ⟨i + 1, by omega, by go_num, HQ, Lib.hid hb.out.drew⟩
                  case measure => simp [intOf]; omega
                · have fy : (bv y1 != bv y2) = true := by
                    rw [bne_iff_ne]
                    intro h9
                    have h8 : y1.toNat = y2.toNat := by rw [bv_nat, bv_nat] at h9; omega
                    exact hyy (UInt8.toNat_inj.1 h8)
                  have HN : Hid (num r = none) := Lib.hid (by
                    rw [HE.out, if_neg]
                    intro h9
                    refine hyy ?_
                    rw [HY1.out, ← HY2.out, h9, gB_take hik HKR.out])
                  clear hyy
                  go_wp2_with fail
                  refine Text.wp_region_text (fun w' => w'.cell? ⟨g2, i, none⟩ = some (B y1) ∧ w'.cell? ⟨g, o + u, none⟩ = some (B y2)) [(0, 4), (1, 4), (2, 4), (4, 4), (5, 4), (6, 4), (7, 4), (8, 4), (3, 0), (9, 0), (10, 4)] (by kernel_rfl) (by kernel_rfl) (fun _ _ _ _ _ h => h) (⟨hcu, q2⟩) ?_
                  iterate 8 (refine Text.purek rfl rfl (fun K hK => ⟨_, fun w' => by go_simp <;> rfl, ?_⟩); go_simp; refine hK _ ?_; clear hK K)
                  iterate 2 (refine Text.heldk rfl rfl (fun K hK => ⟨_, fun w' hw' => by go_simp <;> rfl, ?_⟩); go_simp; refine hK _ ?_; clear hK K)
                  (refine Text.purek rfl rfl (fun K hK => ⟨_, fun w' => by go_simp <;> rfl, ?_⟩); go_simp; refine hK _ ?_; clear hK K)
                  refine Text.done ?_
                  go_wp2_with fail
                  go_ret3
                  rw [HN.out]
                  exact ⟨rfl, (below_then HB2.out hb.out).drew⟩
              · obtain rfl : i = k := by omega
                have HN : Hid (num r = some (V, i)) := Lib.hid (by
                  rw [HE.out, if_pos]
                  exact take_ext (by rw [← HM.out]; exact hmk) HKR.out hq.out)
                go_wp2_with fail
                go_ret3
                rw [HN.out]
                exact ⟨by go_num, below_then HB2.out hb.out⟩
          · have fmk : ((m : Int) != (k : Int)) = true := by rw [bne_iff_ne]; omega
            have HN : Hid (num r = none) := Lib.hid (by
              rw [HE.out, if_neg]
              intro h9
              have := congrArg List.length h9
              rw [HTK.out, ← HM.out] at this
              exact hmk this)
            clear hmk
            go_wp2_with (first
              | (go_at_call 81; refine (rnum_big V w (by omega)).mono ?_; rintro e w2 ⟨⟨g2, m2, c2, rfl, em, ho⟩, hb2⟩; obtain rfl : m = m2 := HM.out.trans em.symm; have HB2 := Lib.hid hb2; clear ho hb2))
            go_ret3
            rw [HN.out]
            exact ⟨rfl, HB2.out⟩
end Go.Proofs.YtheijpjfpaghfaaGreatDoor
