/- Contracts of package polynomial: Add, Mul, DivMod. -/
import Derived.Test.YtakedococfklgaaB1
namespace Go.Proofs.Ytakedococfklgaa
open Go.RowKit Gf

attribute [local go_sem] Gf.xor_bits Gf.and_bits Gf.or_bits Gf.ne_zero_iff Gf.eq_zero_iff Gf.eq_one_iff Gf.beq_bytes Gf.bne_bytes Gf.bv_toNat

theorem splice_some (l : List UInt8) (m : Nat) (h : l.length ≤ m) : splice ((zeros m).map B) 0 (l.map B) = (tab m (gB l)).map B := by
  have e : tab m (gB l) = l ++ zeros (m - l.length) := by
    refine gB_ext (by rw [tab_length, List.length_append, zeros_length]; omega) fun k hk => ?_
    rw [tab_length] at hk
    rw [gB_tab _ hk, gB_append]
    split
    · rfl
    · rw [gB_zeros, gB_ge (by omega)]
  rw [e]
  simp [splice, zeros]

/-- The sums so far. -/
def addS (p q : List UInt8) (m k : Nat) : List UInt8 := tab m (fun i => if i < k then gB p i ^^^ gB q i else gB p i)
theorem addS_set (p q : List UInt8) (m k : Nat) : (addS p q m k).set k (gB p k ^^^ gB q k) = addS p q m (k + 1) := tab_set _ _ _
theorem addS_zero (p q : List UInt8) (m : Nat) : addS p q m 0 = tab m (gB p) := tab_congr fun k _ => if_neg (by omega)
theorem addS_all (p q : List UInt8) (m k : Nat) (h : q.length ≤ k) : addS p q m k = tab m (fun i => gB p i ^^^ gB q i) := tab_congr fun i _ => by
  split
  · rfl
  · rw [gB_ge (l := q) (by omega)]; simp
theorem addS_length (p q : List UInt8) (m k : Nat) : (addS p q m k).length = m := tab_length _ _
theorem addS_get (p q : List UInt8) (m k : Nat) (h : k < m) : gB (addS p q m k) k = gB p k := by rw [addS, gB_tab _ h, if_neg (by omega)]

set_option maxRecDepth 100000 in
set_option maxHeartbeats 1000000 in
theorem add_any (A A' : Option Addr) (n c n' c' : Nat) (p q : List UInt8) (w : World) (hp : BS w A n c p) (hq : BS w A' n' c' q) :
    Calls Try.prog 89 #[.slice A n c, .slice A' n' c'] w (Rets (NewB 5 (Py.addP p q)) w) := by
  have hn := hp.len_le
  have hn' := hq.len_le
  have HLP := Lib.hid hp.1
  have HLQ := Lib.hid hq.1
  have HP := Lib.hid hp
  have HQ := Lib.hid hq
  clear hp hq
  by_cases hnn : n < n'
  · have h1 : n ≤ n' := by omega
    have h2 : n' ≤ n' := by omega
    have HE : Hid (Py.trim (tab n' (fun i => gB p i ^^^ gB q i)) = Py.addP p q) := Lib.hid (by rw [Py.addP, Py.xorL, HLP.out, HLQ.out, show max n n' = n' by omega])
    have hmk := make_bytes n' (by omega)
    have HC := Lib.hid (copy_src (l' := p) (HP.out.kept ((Below.refl _ w).alloc (Nat.le_refl _) (.cells (row (zeros n')) 5))) (by rw [HLP.out]; omega) (fun k _ => rfl))
    have HS := Lib.hid (splice_some p n' (by rw [HLP.out]; exact h1))
    go_enter Try.func89, Try.ntmps89
    go_wp2_with (first
      | (refine wpList_copy_splice (o := ⟨some 16, _, _, _, _, _⟩) rfl (.tmp 14) (.tmp 15) _ _ rfl 5 Try.underlying22 (by kernel_rfl) (some ⟨w.heap.size, 0, none⟩) A n' n' n c rfl rfl w.heap.size 0 ((zeros n').map B) 5 (Blk.new w _ _) (p.map B) (by rw [List.length_map, HLP.out]; exact (Nat.min_eq_left h1).symm) (fun h0 => ⟨rfl, HC.out h0⟩) (by rw [List.length_map, List.length_map, HLP.out, zeros_length]; omega) (by simp [Value.oneCell']) w.heap.size w ((Below.refl _ _).alloc (Nat.le_refl _) _) (Nat.le_refl _) ?_; intro w1 hg hb; have HB := Lib.hid hb; clear hb))
    have HG : Hid (Blk w1 w.heap.size 5 (row (addS p q n' 0))) := Lib.hid (by
      have := hg.out
      rw [HS.out] at this
      rw [addS_zero]
      exact this)
    clear hg hmk
    go_loopw [19] (fun i wr => ∃ k : Nat, k ≤ n' ∧ i = .int .i64 (k : Int) ∧ Hid (Blk wr w.heap.size 5 (row (addS p q n' k))) ∧ Hid (Below w.heap.size w wr)) (fun i _ => n' - (intOf i).toNat)
    case atStart => exact ⟨0, by omega, rfl, HG, HB⟩
    case round =>
      obtain ⟨k, hk, rfl, hg, hb⟩ := hrel
      by_cases hlt : k < n'
      · obtain ⟨ga, o, rfl, hc⟩ := HQ.out.at_ hb.out hlt
        have c1 : wr.cell? ⟨w.heap.size, k, none⟩ = some (B (gB p k)) := by
          rw [hg.out.cell, row_get _ _ (by rw [addS_length]; omega), addS_get _ _ _ _ (by omega)]
        have f1 := hg.out.frozen k
        go_wp2
        go_roundw
        case rel =>
          refine ⟨k + 1, by omega, by go_num, Lib.hid ?_, Lib.hid (hb.out.setCell (Nat.le_refl _) _)⟩
          have := hg.out.set_ k (B (gB p k ^^^ gB q k))
          rw [row_set, addS_set] at this
          exact this
        case measure => simp [intOf]; omega
      · have HL : Hid (tab n' (fun i => gB p i ^^^ gB q i) = addS p q n' k) := Lib.hid (addS_all p q n' k (by rw [HLQ.out]; omega)).symm
        have HBS : Hid (BS wr (some ⟨w.heap.size, 0, none⟩) n' n' (tab n' (fun i => gB p i ^^^ gB q i))) := Lib.hid (BS.of_blk (by rw [HL.out]; exact hg.out) (tab_length _ _) (by unfold lim; omega))
        go_wp2_with fail
        refine (trim_any _ _ _ _ _ HBS.out).mono ?_
        rintro e w2 ⟨v, rfl, g2, n2, rfl, h21, h22, h23, h24⟩
        rw [HE.out] at h21 h23
        have HR : Hid (NewB 5 (Py.addP p q) w (.slice (some ⟨g2, 0, none⟩) n2 n2) w2) := Lib.hid ⟨g2, n2, rfl, h21, Nat.le_trans hb.out.size h22, h23, below_then hb.out h24⟩
        clear h21 h22 h23 h24
        go_wp2_with fail
        go_ret
        exact ⟨_, rfl, HR.out⟩
  · have h1 : n ≤ n := by omega
    have h2 : n' ≤ n := by omega
    have HE : Hid (Py.trim (tab n (fun i => gB p i ^^^ gB q i)) = Py.addP p q) := Lib.hid (by rw [Py.addP, Py.xorL, HLP.out, HLQ.out, show max n n' = n by omega])
    have hmk := make_bytes n (by omega)
    have HC := Lib.hid (copy_src (l' := p) (HP.out.kept ((Below.refl _ w).alloc (Nat.le_refl _) (.cells (row (zeros n)) 5))) (by rw [HLP.out]; omega) (fun k _ => rfl))
    have HS := Lib.hid (splice_some p n (by rw [HLP.out]; exact h1))
    go_enter Try.func89, Try.ntmps89
    go_wp2_with (first
      | (refine wpList_copy_splice (o := ⟨some 16, _, _, _, _, _⟩) rfl (.tmp 14) (.tmp 15) _ _ rfl 5 Try.underlying22 (by kernel_rfl) (some ⟨w.heap.size, 0, none⟩) A n n n c rfl rfl w.heap.size 0 ((zeros n).map B) 5 (Blk.new w _ _) (p.map B) (by rw [List.length_map, HLP.out]; exact (Nat.min_eq_left h1).symm) (fun h0 => ⟨rfl, HC.out h0⟩) (by rw [List.length_map, List.length_map, HLP.out, zeros_length]; omega) (by simp [Value.oneCell']) w.heap.size w ((Below.refl _ _).alloc (Nat.le_refl _) _) (Nat.le_refl _) ?_; intro w1 hg hb; have HB := Lib.hid hb; clear hb))
    have HG : Hid (Blk w1 w.heap.size 5 (row (addS p q n 0))) := Lib.hid (by
      have := hg.out
      rw [HS.out] at this
      rw [addS_zero]
      exact this)
    clear hg hmk
    go_loopw [19] (fun i wr => ∃ k : Nat, k ≤ n' ∧ i = .int .i64 (k : Int) ∧ Hid (Blk wr w.heap.size 5 (row (addS p q n k))) ∧ Hid (Below w.heap.size w wr)) (fun i _ => n' - (intOf i).toNat)
    case atStart => exact ⟨0, by omega, rfl, HG, HB⟩
    case round =>
      obtain ⟨k, hk, rfl, hg, hb⟩ := hrel
      by_cases hlt : k < n'
      · obtain ⟨ga, o, rfl, hc⟩ := HQ.out.at_ hb.out hlt
        have c1 : wr.cell? ⟨w.heap.size, k, none⟩ = some (B (gB p k)) := by
          rw [hg.out.cell, row_get _ _ (by rw [addS_length]; omega), addS_get _ _ _ _ (by omega)]
        have f1 := hg.out.frozen k
        go_wp2
        go_roundw
        case rel =>
          refine ⟨k + 1, by omega, by go_num, Lib.hid ?_, Lib.hid (hb.out.setCell (Nat.le_refl _) _)⟩
          have := hg.out.set_ k (B (gB p k ^^^ gB q k))
          rw [row_set, addS_set] at this
          exact this
        case measure => simp [intOf]; omega
      · have HL : Hid (tab n (fun i => gB p i ^^^ gB q i) = addS p q n k) := Lib.hid (addS_all p q n k (by rw [HLQ.out]; omega)).symm
        have HBS : Hid (BS wr (some ⟨w.heap.size, 0, none⟩) n n (tab n (fun i => gB p i ^^^ gB q i))) := Lib.hid (BS.of_blk (by rw [HL.out]; exact hg.out) (tab_length _ _) (by unfold lim; omega))
        go_wp2_with fail
        refine (trim_any _ _ _ _ _ HBS.out).mono ?_
        rintro e w2 ⟨v, rfl, g2, n2, rfl, h21, h22, h23, h24⟩
        rw [HE.out] at h21 h23
        have HR : Hid (NewB 5 (Py.addP p q) w (.slice (some ⟨g2, 0, none⟩) n2 n2) w2) := Lib.hid ⟨g2, n2, rfl, h21, Nat.le_trans hb.out.size h22, h23, below_then hb.out h24⟩
        clear h21 h22 h23 h24
        go_wp2_with fail
        go_ret
        exact ⟨_, rfl, HR.out⟩

/-! ### Mul -/
end Go.Proofs.Ytakedococfklgaa
