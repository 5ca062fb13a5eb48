/- The reference's take. -/
import Derived.Test.YtfonbliomokffaaGreatTlm
import Derived.Test.YtfonbliomokffaaGreatAdm
namespace Go.Proofs.YtfonbliomokffaaGreat
open Go Go.RowKit Gf Sha

section
variable {P : Program} (w : World) {ops : Array Oper} {rest : List Oper} {o : Oper} {a : Act} {Q : Exit → Act → World → Prop}
/-- x % y, of bytes. -/
theorem wpList_remB (hg : o.guard = none) (x y : Operand) (t t2 : TypeId) (hop : o.op = .binOp .rem t x y t2) (X Y : Nat) (zx zy : Int) (hx : a.eval x = .int .u8 zx) (hy : a.eval y = .int .u8 zy) (hX : zx = (X : Int)) (hY : zy = (Y : Int)) (hY0 : 0 < Y)
    (h : wpList P ops Q rest (a.put o.dst (.int .u8 ((X % Y : Nat) : Int))) w) : wpList P ops Q (o :: rest) a w :=
  wpList_plain hg fun K hK => by
    subst hX hY
    have e : ∀ w', (binOp .rem t (.int .u8 (X : Int)) (.int .u8 (Y : Int))).run P w' = .ok (.int .u8 ((X % Y : Nat) : Int)) w' := fun w' => by
      have hne : ¬ Y = 0 := by omega
      show (Op.intDiv .rem .u8 (X : Int) (Y : Int)).run P w' = _
      unfold Op.intDiv
      simp [hne]
      exact Int.tmod_eq_emod_of_nonneg (by omega)
    unfold Oper.wp execOp
    simp only [hop, hx, hy]
    simp [eqGuard, Result.andThen, e]
    exact hK _ _ (by simpa using h)
end
section
variable {P : Program} {w : World} {o : Oper} {a : Act}
/-- s[lo:hi]. -/
theorem exec_subS (s lo hi : Operand) (ty te : TypeId) (hop : o.op = .slice ty s (some lo) (some hi) none) (hu : P.underlying ty = some (.slice te)) (hsz : (match P.info? te with | some i => i.size == 1 | none => false) = true)
    (A : Option Addr) (n c k m : Nat) (hs : a.eval s = .slice A n c) (hlo : a.eval lo = .int .i64 (k : Int)) (hhi : a.eval hi = .int .i64 (m : Int)) (hk : k ≤ m) (hm : m ≤ n) (hc : n ≤ c) : (execOp a.eval o).run P w = .ok (.value (.slice (cutA A c k) (m - k) (c - k))) w := by
  have h2 := one_size (P := P) w hsz
  unfold execOp
  simp only [hop, Option.map_some, Option.map_none, hs, hlo, hhi]
  have h3 : m ≤ c := by omega
  simp [Instr.sliceAt, Instr.slice, run_underlying hu, Instr.sliceBounds, Instr.sliceBound, asIntOf, hk, h3, h2, Result.andThen]
  rfl
end
theorem first_skip {b : List UInt8} {j : Nat} (h : firstK b = (firstK (b.drop j)).map (· + j)) (hj : j < b.length) (hb : ¬ (gB b j).toNat < 128) : firstK b = (firstK (b.drop (j + 1))).map (· + (j + 1)) := by
  rw [h, drop_cons hj, firstK, if_neg hb, Option.map_map]
  congr 1
  funext x
  show x + 1 + j = x + (j + 1)
  omega
theorem first_here {b : List UInt8} {j : Nat} (h : firstK b = (firstK (b.drop j)).map (· + j)) (hj : j < b.length) (hb : (gB b j).toNat < 128) : firstK b = some (j + 1) := by
  rw [h, drop_cons hj, firstK, if_pos hb]
  show some (1 + j) = _
  rw [Nat.add_comm]
theorem first_late {b : List UInt8} (h : firstK b = (firstK (b.drop 6)).map (· + 6)) : ∀ k, firstK b = some k → ¬ k ≤ 6 := by
  intro k hk
  rw [h] at hk
  cases hf : firstK (b.drop 6) with
  | none => rw [hf] at hk; cases hk
  | some q =>
    rw [hf] at hk
    have e : q + 6 = k := Option.some.inj hk
    have hq : 1 ≤ q := by
      cases hd : b.drop 6 with
      | nil => rw [hd] at hf; cases hf
      | cons x r =>
        rw [hd, firstK] at hf
        split at hf
        · cases hf; exact Nat.le_refl _
        · cases hr : firstK r with
          | none => rw [hr] at hf; cases hf
          | some z => rw [hr] at hf; have h9 : z + 1 = q := Option.some.inj hf; omega
    omega
theorem first_end {b : List UInt8} {j : Nat} (h : firstK b = (firstK (b.drop j)).map (· + j)) (hj : b.length ≤ j) : firstK b = none := by
  rw [h, List.drop_eq_nil_of_le hj]; rfl
theorem takeS_late {b : List UInt8} {m : Nat} (h : firstK b = (firstK (b.drop 6)).map (· + 6)) : takeS b m = (0, [], false) := by
  unfold takeS
  cases hf : firstK b with
  | none => rfl
  | some k => simp only [if_neg (first_late h k hf)]
theorem takeS_end {b : List UInt8} {m j : Nat} (h : firstK b = (firstK (b.drop j)).map (· + j)) (hj : b.length ≤ j) : takeS b m = (0, [], false) := by
  unfold takeS; rw [first_end h hj]
theorem takeS_at {b : List UInt8} {m k : Nat} (h : firstK b = some k) (hk : k ≤ 6) : takeS b m = (valL (b.take k), b.drop k, decide (valL (b.take k) ≤ m) && decide (uv (valL (b.take k)) = b.take k)) := by
  unfold takeS; rw [h]; simp only [if_pos hk]
theorem val_step {l : List UInt8} {i : Nat} (h : i < l.length) : valL (l.drop i) = (gB l i).toNat % 128 + 128 * valL (l.drop (i + 1)) := by
  rw [drop_cons h]; rfl
theorem val_lt : ∀ l : List UInt8, valL l < 128 ^ l.length
  | [] => by decide
  | x :: l => by
    have h := val_lt l
    show x.toNat % 128 + 128 * valL l < 128 ^ (l.length + 1)
    rw [Nat.pow_succ]
    omega
theorem val_small {l : List UInt8} (h : l.length ≤ 6) (j : Nat) : valL (l.drop j) < 4398046511104 := by
  refine Nat.lt_of_lt_of_le (val_lt _) ?_
  have h1 : (l.drop j).length ≤ 6 := by rw [List.length_drop]; omega
  exact Nat.le_trans (Nat.pow_le_pow_right (by decide) h1) (by decide)
theorem gB_take {b : List UInt8} {k i : Nat} (hi : i < k) (hk : k ≤ b.length) : gB (b.take k) i = gB b i := by
  rw [gB_eq (by rw [List.length_take]; omega), gB_eq (by omega), List.getElem_take]
set_option maxRecDepth 100000 in
set_option maxHeartbeats 4000000 in
theorem take_any (A : Option Addr) (n c : Nat) (b : List UInt8) (m : Nat) (hm : m ≤ 1099511627776) (w : World) (h : BS w A n c b) :
    Calls Tryz.prog 71 #[.slice A n c, .int .i64 (m : Int)] w fun e w' => ∃ A' n' c', e = .returned (.tuple #[.int .i64 ((takeS b m).1 : Int), .slice A' n' c', .bool (takeS b m).2.2]) ∧ (∀ W, BS W A n c b → BS W A' n' c' (takeS b m).2.1) ∧ Below w.heap.size w w' := by
  have H := Lib.hid h
  have HL := Lib.hid h.1
  have HC := Lib.hid h.2.1
  have hn9 := h.len_le
  have HM := Lib.hid hm
  clear h hm
  go_enter Tryz.func71, Tryz.ntmps71
  go_wp2_with fail
  go_loopw [7] (fun kv wr => w = wr ∧ ∃ k : Nat, 1 ≤ k ∧ k ≤ 7 ∧ kv = .int .i64 (k : Int) ∧ Hid (firstK b = (firstK (b.drop (k - 1))).map (· + (k - 1)))) (fun kv _ => 7 - (intOf kv).toNat)
  case atStart => exact ⟨rfl, 1, by omega, by omega, rfl, Lib.hid (by show firstK b = (firstK b).map (· + 0); simp)⟩
  case round =>
    obtain ⟨rfl, k, hk1, hk7, rfl, hf⟩ := hrel
    by_cases h6 : k ≤ 6
    rotate_left
    · have HE : Hid (takeS b m = (0, [], false)) := Lib.hid (takeS_late (by
        have := hf.out
        rwa [show k - 1 = 6 by omega] at this))
      go_wp2_with fail
      go_ret3
      rw [HE.out]
      exact ⟨none, 0, 0, rfl, fun _ _ => BS.nil, Below.refl _ _⟩
    by_cases hkn : k ≤ n
    rotate_left
    · have HE : Hid (takeS b m = (0, [], false)) := Lib.hid (takeS_end hf.out (by rw [HL.out]; omega))
      go_wp2_with fail
      go_ret3
      rw [HE.out]
      exact ⟨none, 0, 0, rfl, fun _ _ => BS.nil, Below.refl _ _⟩
    obtain ⟨j, hj⟩ : ∃ j, j = k - 1 := ⟨_, rfl⟩
    obtain ⟨g, o, rfl, q0⟩ := H.out.at_ (Below.refl _ _) (show j < n by omega)
    rw [← hj] at hf
    have hj1 : (k : Int) - 1 = (j : Int) := by omega
    have HJ : Hid (j < b.length) := Lib.hid (by rw [HL.out]; omega)
    have HJK : Hid (j + 1 = k) := Lib.hid (by omega)
    obtain ⟨y, hy⟩ : ∃ y, y = gB b j := ⟨_, rfl⟩
    rw [← hy] at q0
    have HY := Lib.hid hy
    clear hy hj
    by_cases hb : y.toNat < 128
    rotate_left
    · have f1 : decide ((128 : Int) ≤ bv y) = true := decide_eq_true (by rw [bv_nat]; omega)
      have HF : Hid (firstK b = (firstK (b.drop (j + 1))).map (· + (j + 1))) := Lib.hid (first_skip hf.out HJ.out (by rw [← HY.out]; exact hb))
      clear hb
      go_wp2_with fail
      go_roundw
      case rel => exact ⟨trivial, k + 1, by omega, by omega, by go_num, Lib.hid (by rw [show k + 1 - 1 = j + 1 by have := HJK.out; omega]; exact HF.out)⟩
      case measure => simp [intOf]; omega
    · have f1 : decide ((128 : Int) ≤ bv y) = false := decide_eq_false (by rw [bv_nat]; omega)
      have HF : Hid (firstK b = some k) := Lib.hid (by rw [← HJK.out]; exact first_here hf.out HJ.out (by rw [← HY.out]; exact hb))
      have HTK : Hid ((b.take k).length = k) := Lib.hid (by rw [List.length_take, HL.out]; omega)
      have HE := Lib.hid (takeS_at (m := m) HF.out h6)
      have hk : k ≤ 6 := h6
      clear hb hf
      go_wp2_with fail
      clear f1 hj1 q0
      go_loopw [8, 9] (fun nv iv wr => w = wr ∧ ∃ i : Nat, i ≤ k ∧ nv = .int .i64 ((valL ((b.take k).drop i) : Nat) : Int) ∧ iv = .int .i64 ((i : Int) - 1)) (fun _ iv _ => (intOf iv + 1).toNat)
      case atStart => exact ⟨rfl, k, by omega, by rw [List.drop_eq_nil_of_le (by rw [HTK.out]; exact Nat.le_refl _)]; rfl, by rw [show (k : Int) - 1 = (j : Int) by have := HJK.out; omega]⟩
      case round =>
        obtain ⟨rfl, i, hik, rfl, rfl⟩ := hrel
        rcases Nat.eq_zero_or_pos i with rfl | hp
        · have e0 : ((0 : Nat) : Int) - 1 = -1 := rfl
          obtain ⟨N, hN⟩ : ∃ N, N = valL (b.take k) := ⟨_, rfl⟩
          have HN : Hid (valL (b.take k) = N) := Lib.hid hN.symm
          have hNlt : N < 4398046511104 := by rw [hN]; exact val_small (l := b.take k) (by rw [HTK.out]; exact h6) 0
          rw [List.drop_zero, HN.out]
          rw [HN.out] at HE
          clear hN
          have hkn2 : (k : Int) ≤ (n : Int) := by omega
          have HBC := Lib.hid (H.out.cut hkn)
          have HBP := Lib.hid (H.out.pre hkn)
          cases hle : decide (N ≤ m) with
          | false =>
            have f2 : decide ((N : Int) ≤ (m : Int)) = false := by rw [decide_eq_false_iff_not] at hle ⊢; omega
            rw [hle] at HE
            go_wp2_with fail
            refine Text.wp_region_text (fun _ => True) [(0, 4), (1, 4), (2, 4), (4, 4), (5, 4), (6, 4), (7, 4), (8, 4), (9, 4), (10, 4), (11, 4), (12, 4), (13, 4), (14, 4), (15, 4), (16, 4), (17, 4), (3, 0), (18, 4), (19, 4)] (by kernel_rfl) (by kernel_rfl) (fun _ _ _ _ _ h => h) (trivial) ?_
            iterate 7 (refine Text.purek rfl rfl (fun K hK => ⟨_, fun w' => by go_simp <;> rfl, ?_⟩); go_simp; refine hK _ ?_; clear hK K)
            iterate 8 (refine Text.skipk (.inr (.inr rfl)) rfl rfl (fun K hK => ?_); go_simp; refine hK _ ?_; clear hK K)
            iterate 2 (refine Text.purek rfl rfl (fun K hK => ⟨_, fun w' => by go_simp <;> rfl, ?_⟩); go_simp; refine hK _ ?_; clear hK K)
            refine Text.heldk rfl rfl (fun K hK => ?_)
            refine ⟨_, fun w' _ => exec_cutS (.tmp 42) (.tmp 43) 31 5 rfl Tryz.underlying31 (by kernel_rfl) _ n c k rfl (by go_simp) hkn, ?_⟩
            go_simp
            refine hK _ ?_
            clear hK K
            iterate 2 (refine Text.purek rfl rfl (fun K hK => ⟨_, fun w' => by go_simp <;> rfl, ?_⟩); go_simp; refine hK _ ?_; clear hK K)
            refine Text.done ?_
            go_wp2_with fail
            go_ret3
            rw [HE.out]
            exact ⟨_, _, _, rfl, fun W hW => hW.cut hkn, (Below.refl _ _).drew⟩
          | true =>
            have f2 : decide ((N : Int) ≤ (m : Int)) = true := by rw [decide_eq_true_eq] at hle ⊢; omega
            rw [hle] at HE
            obtain ⟨Z, hZ⟩ : ∃ Z, Z = decide (uv N = b.take k) := ⟨_, rfl⟩
            rw [← hZ] at HE
            have es : ((strB (uv N)).toList == (strB (b.take k)).toList) = Z := by rw [strB_eq, hZ]
            clear hZ
            go_wp2_with fail
            refine Text.wp_region_text (fun w' => BS w' (some ⟨g, o, none⟩) k c (b.take k)) [(0, 4), (1, 4), (2, 4), (4, 4), (5, 4), (6, 4), (7, 4), (8, 4), (11, 4), (12, 4), (3, 0), (13, 0), (14, 0), (9, 2), (17, 4), (18, 4), (10, 1), (15, 4), (16, 4), (19, 4)] (by kernel_rfl) (by kernel_rfl) (fun _ _ _ _ _ h => h) (HBP.out.drew) ?_
            iterate 10 (refine Text.purek rfl rfl (fun K hK => ⟨_, fun w' => by go_simp <;> rfl, ?_⟩); go_simp; refine hK _ ?_; clear hK K)
            refine Text.heldk rfl rfl (fun K hK => ?_)
            refine ⟨_, fun w' _ => exec_cutS (.tmp 42) (.tmp 43) 31 5 rfl Tryz.underlying31 (by kernel_rfl) _ n c k rfl (by go_simp) hkn, ?_⟩
            go_simp
            refine hK _ ?_
            clear hK K
            refine Text.heldk rfl rfl (fun K hK => ?_)
            refine ⟨_, fun w' _ => exec_preS (.tmp 52) (.tmp 53) 31 5 rfl Tryz.underlying31 (by kernel_rfl) _ n c k rfl (by go_simp) hkn HC.out, ?_⟩
            go_simp
            refine hK _ ?_
            clear hK K
            refine Text.heldk rfl rfl (fun K hK => ?_)
            refine ⟨_, fun w' hw' => by have hcs := conv_str hw'; go_simp <;> rfl, ?_⟩
            go_simp
            refine hK _ ?_
            clear hK K
            refine Text.effw rfl rfl (fun K hK => ?_)
            go_simp
            refine (refnum_any w (.slice none 0 0) [] (N : Int) w.drew (OL.nil _ _ _ _ _) (Below.refl _ _).drew (by omega) (by omega) (by simp)).mono ?_
            rintro e w2 ⟨v2, rfl, x1, x2⟩
            obtain ⟨A2, c2, rfl, h9⟩ := ol8_bs x1 x2 (by have := (uv_length N).2; unfold lim; simp; omega)
            rw [show ([] : List UInt8) ++ uv ((N : Int)).toNat = uv N from rfl] at h9 ⊢
            have hcs := conv_str h9
            have HB2 := Lib.hid x2
            refine hK _ _ (HBP.out.kept x2) ?_
            clear hK K x1 x2
            iterate 2 (refine Text.purek rfl rfl (fun K hK => ⟨_, fun w' => by go_simp <;> rfl, ?_⟩); go_simp; refine hK _ ?_; clear hK K)
            (refine Text.readk rfl rfl (fun K hK => ⟨_, by go_simp <;> rfl, ?_⟩); go_simp; refine hK _ ?_; clear hK K)
            iterate 3 (refine Text.purek rfl rfl (fun K hK => ⟨_, fun w' => by go_simp <;> rfl, ?_⟩); go_simp; refine hK _ ?_; clear hK K)
            refine Text.done ?_
            go_wp2_with fail
            go_ret3
            rw [HE.out]
            exact ⟨_, _, _, rfl, fun W hW => hW.cut hkn, HB2.out⟩
        · obtain ⟨t, rfl⟩ : ∃ t, i = t + 1 := ⟨i - 1, by omega⟩
          rw [show (((t + 1 : Nat) : Int) - 1) = (t : Int) by omega]
          obtain ⟨M, hM⟩ : ∃ M, M = valL ((b.take k).drop (t + 1)) := ⟨_, rfl⟩
          have hMlt : M < 4398046511104 := by rw [hM]; exact val_small (l := b.take k) (by rw [HTK.out]; exact h6) _
          obtain ⟨g', o', e', q2⟩ := H.out.at_ (Below.refl _ _) (show t < n by omega)
          cases e'
          obtain ⟨z, hz⟩ : ∃ z, z = gB b t := ⟨_, rfl⟩
          rw [← hz] at q2
          have HV : Hid (M * 128 + z.toNat % 128 = valL ((b.take k).drop t)) := Lib.hid (by rw [val_step (by rw [HTK.out]; omega), ← hM, gB_take (by omega) (by rw [HL.out]; exact hkn), ← hz]; omega)
          rw [← hM]
          clear hM hz
          go_wp2_with (first
            | ((with_reducible show wpList _ _ _ (⟨some 38, _, _, _, _, _⟩ :: _) _ _); refine wpList_remB _ rfl (.tmp 37) _ 5 5 rfl z.toNat 128 _ 128 rfl rfl rfl rfl (by decide) ?_)
            | ((with_reducible show wpList _ _ _ (⟨some 39, _, _, _, _, _⟩ :: _) _ _); refine wpList_convN _ rfl (.tmp 38) 5 3 rfl _ .u8 .i64 Tryz.underlying5 Tryz.underlying3 (z.toNat % 128) _ rfl rfl (IntWalk.i64_in _ (by omega)) ?_))
          go_roundw
          case rel => exact ⟨trivial, t, by omega, by rw [← HV.out]; rfl, rfl⟩
          case measure => simp [intOf]
end Go.Proofs.YtfonbliomokffaaGreat
