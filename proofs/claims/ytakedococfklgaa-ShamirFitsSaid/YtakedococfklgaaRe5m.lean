/- Contract of the reference kinkeepref06.Mul. -/
import Derived.Test.YtakedococfklgaaRe4m
namespace Go.Proofs.Ytakedococfklgaa
open Go.RowKit Gf

attribute [local go_sem] Gf.xor_bits

/-- The products when i coefficients of p are done. -/
def rcK (p q : List UInt8) : Nat → List UInt8
  | 0 => zeros (p.length + q.length)
  | i + 1 => Py.addAt (rcK p q i) i q (gB p i)
theorem rcK_length (p q : List UInt8) : ∀ i, (rcK p q i).length = p.length + q.length
  | 0 => zeros_length _
  | i + 1 => by rw [rcK, Py.addAt_length, rcK_length p q i]
def rmP (p q : List UInt8) : List UInt8 := Py.trim (rcK p q p.length)

set_option maxRecDepth 100000 in
set_option maxHeartbeats 1000000 in
theorem rpmul_any (A A' : Option Addr) (n c n' c' : Nat) (p q : List UInt8) (w : World) (hp : BS w A n c p) (hq : BS w A' n' c' q) (hn : n ≤ 100000) (hn' : n' ≤ 100000) :
    Calls Try.prog 79 #[.slice A n c, .slice A' n' c'] w (Rets (GvB (rmP p q)) w) := by
  have HP := Lib.hid hp
  have HQ := Lib.hid hq
  have HLP := Lib.hid hp.1
  have HLQ := Lib.hid hq.1
  have hn2 := hp.len_le
  have hn2' := hq.len_le
  have hmk := make_bytes (n + n') (by omega)
  rw [show ((n + n' : Nat) : Int) = (n : Int) + (n' : Int) by omega] at hmk
  have hnn : (n : Int) + (n' : Int) ≤ 200000 := by omega
  have HNN : Hid (n + n' ≤ 200000) := Lib.hid (by omega)
  clear hp hq hn hn'
  go_enter Try.func79, Try.ntmps79
  go_wp2_with fail
  clear hmk
  go_loopw [16] (fun i wr => ∃ k : Nat, k ≤ n ∧ i = .int .i64 (k : Int) ∧ Hid (OB wr w.heap.size 5 (n + n') (rcK p q k)) ∧ Hid (Below w.heap.size w wr)) (fun i _ => n - (intOf i).toNat)
  case atStart =>
    refine ⟨0, by omega, rfl, Lib.hid ?_, Lib.hid (kb1' _ _)⟩
    have := OB.of_blk (l := zeros (n + n')) (Blk.new w 5 (row (zeros (n + n'))))
    rw [zeros_length] at this
    rw [rcK, HLP.out, HLQ.out]
    exact this
  case round =>
    obtain ⟨i, hi, rfl, ho, hb⟩ := hrel
    by_cases hlt : i < n
    · go_wp2_with fail
      go_loopw [21] (fun j wr => ∃ k : Nat, k ≤ n' ∧ j = .int .i64 (k : Int) ∧ Hid (OB wr w.heap.size 5 (n + n') (Py.addK (rcK p q i) i q (gB p i) k)) ∧ Hid (Below w.heap.size w wr)) (fun j _ => n' - (intOf j).toNat)
      case atStart => exact ⟨0, by omega, rfl, by rw [Py.addK_zero]; exact ho, hb⟩
      case round =>
        obtain ⟨k, hk, rfl, ho2, hb2⟩ := hrel
        by_cases hlk : k < n'
        · obtain ⟨g1, o1, rfl, c1⟩ := HP.out.at_ hb2.out hlt
          obtain ⟨g2, o2, rfl, c2⟩ := HQ.out.at_ hb2.out hlk
          have hlen : i + k < (rcK p q i).length := by rw [rcK_length, HLP.out, HLQ.out]; omega
          have c3 : wr.cell? ⟨w.heap.size, i + k, none⟩ = some (B (gB (rcK p q i) (i + k))) := by
            rw [ho2.out.cell (by rw [Py.addK_length]; exact hlen), Py.addK_get _ _ _ _ _ hlen]
          have f3 := ho2.out.frozen (i + k)
          obtain ⟨xa, hxa⟩ : ∃ x, x = gB (rcK p q i) (i + k) := ⟨_, rfl⟩
          obtain ⟨xb, hxb⟩ : ∃ x, x = gB p i := ⟨_, rfl⟩
          obtain ⟨xc, hxc⟩ : ∃ x, x = gB q k := ⟨_, rfl⟩
          rw [← hxa] at c3
          rw [← hxb] at c1
          rw [← hxc] at c2
          have HO3 : Hid (OB (wr.setCell ⟨w.heap.size, i + k, none⟩ (B (xa ^^^ mul xb xc))) w.heap.size 5 (n + n') (Py.addK (rcK p q i) i q (gB p i) (k + 1))) := Lib.hid (by
            have := ho2.out.set_ (i + k) (gB (rcK p q i) (i + k) ^^^ mul (gB p i) (gB q k))
            rw [Py.addK_set _ _ _ _ _ hlen] at this
            rw [hxa, hxb, hxc]
            exact this)
          have HB3 : Hid (Below w.heap.size w (wr.setCell ⟨w.heap.size, i + k, none⟩ (B (xa ^^^ mul xb xc)))) := Lib.hid (hb2.out.setCell (Nat.le_refl _) _)
          have s1 : IntKind.i64.wrap ((i : Int) + (k : Int)) = (i : Int) + (k : Int) := by rw [IntKind.wrap_i64]; omega
          have s2 : (i : Int) + (k : Int) < (n : Int) + (n' : Int) := by omega
          have s3 : (0 : Int) ≤ (i : Int) + (k : Int) := by omega
          have s4 : ((i : Int) + (k : Int)).toNat = i + k := by omega
          clear hxa hxb hxc hlen ho2 hb2
          go_wp2_with fail
          refine Text.wp_region_text (fun _ => True) [(0, 4), (1, 4), (2, 4), (3, 4), (4, 4), (5, 4), (6, 4), (7, 4), (8, 4), (10, 4), (11, 4), (12, 4), (14, 4), (15, 4), (16, 4), (9, 1), (13, 1), (17, 1), (18, 1), (19, 4), (20, 4), (21, 2)] (by kernel_rfl) (by kernel_rfl) (fun _ _ _ _ _ h => h) (trivial) ?_
          iterate 15 (refine Text.purek rfl rfl (fun K hK => ⟨_, fun w' => by go_simp <;> rfl, ?_⟩); go_simp; refine hK _ ?_; clear hK K)
          iterate 3 (refine Text.readk rfl rfl (fun K hK => ⟨_, by go_simp <;> rfl, ?_⟩); go_simp; refine hK _ ?_; clear hK K)
          refine Text.quietk rfl rfl (fun K hK => ?_)
          refine ⟨_, _, _, by go_simp <;> rfl, rmul_any xb xc _, ?_⟩
          go_simp
          refine hK _ ?_
          clear hK K
          iterate 2 (refine Text.purek rfl rfl (fun K hK => ⟨_, fun w' => by go_simp <;> rfl, ?_⟩); go_simp; refine hK _ ?_; clear hK K)
          refine Text.eff rfl rfl (fun K hK => ?_)
          go_simp
          refine hK _ _ trivial ?_
          clear hK K
          refine Text.done ?_
          go_wp2_with fail
          go_roundw
          case rel => exact ⟨k + 1, by omega, by go_num, Lib.hid HO3.out, Lib.hid HB3.out.drew⟩
          case measure => simp [intOf]; omega
        · obtain rfl : k = n' := by omega
          have HO3 : Hid (OB wr w.heap.size 5 (n + k) (rcK p q (i + 1))) := Lib.hid (by
            rw [rcK, ← Py.addK_all _ _ _ _ k (by rw [HLQ.out]; exact Nat.le_refl _)]; exact ho2.out)
          go_wp2_with fail
          go_roundw
          case rel => exact ⟨i + 1, by omega, by go_num, HO3, hb2⟩
          case measure => simp [intOf]; omega
    · obtain rfl : i = n := by omega
      have hlen : (rcK p q i).length = i + n' := by rw [rcK_length, HLP.out, HLQ.out]
      have b1 : BS wr (some ⟨w.heap.size, 0, none⟩) (i + n') (i + n') (rcK p q i) := by
        have := ho.out.bs0 (c := i + n') (by omega) (by have := HNN.out; unfold lim; omega)
        rw [hlen] at this
        exact this
      have HBS := Lib.hid b1
      have HRM : Hid (Py.trim (rcK p q i) = rmP p q) := Lib.hid (by rw [rmP, HLP.out])
      clear b1 hlen
      go_wp2_with fail
      refine (rtrim_any _ (i + n') (i + n') (rcK p q i) wr HBS.out).mono ?_
      rintro e w5 ⟨v5, rfl, A5, n5, c5, rfl, hb5, ha5, hx5⟩
      rw [HRM.out] at hb5
      have HG : Hid (GvB (rmP p q) w (.slice A5 n5 c5) w5) := Lib.hid ⟨A5, n5, c5, rfl, hb5, fun a ea => Nat.le_trans hb.out.size (ha5 a ea), below_then hb.out hx5⟩
      clear hb5 ha5 hx5
      go_wp2_with fail
      go_ret
      exact ⟨_, rfl, HG.out⟩
end Go.Proofs.Ytakedococfklgaa
