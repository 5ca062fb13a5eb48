/- Contracts of slices.Grow of nil, slices.Concat of two, shamir.evaluator. -/
import Derived.Test.YtakedococfklgaaSp0
namespace Go.Proofs.Ytakedococfklgaa
open Go.RowKit Gf

/-- A new row without elements. -/
def GrowRet (w : World) (e : Ending) (w' : World) : Prop := ∃ c, e = .returned (.slice (some ⟨w.heap.size, 0, none⟩) 0 c) ∧ w'.ownsRow w.heap.size 22 1 (.slice (some ⟨w.heap.size, 0, none⟩) 0 c) 0 [] ∧ Below w.heap.size w w'

set_option maxRecDepth 100000 in
set_option maxHeartbeats 1000000 in
theorem grow_nil (n : Nat) (w : World) (h0 : 0 < n) (hn : n * 24 ≤ 140737488355328) :
    Calls Try.prog 63 #[.slice none 0 0, .int .i64 (n : Int)] w (GrowRet w) := by
  obtain ⟨i0, hi0, hz0, hs0, hby0⟩ := info_parts infoBytes
  have hrz : ∀ ty, (Builtin.append_ #[23, 3] ty #[.slice none 0 0, .int .i64 (n : Int)]).run Try.prog w =
      .ok (.slice (some ⟨w.heap.size, 0, none⟩) n (grownCap w n 0 22)) (w.drew.alloc (.cells (#[] ++ Builtin.zeroCells #[.slice none 0 0] n ++ Builtin.zeroCells #[.slice none 0 0] (grownCap w n 0 22 - n)) 22)) := fun ty => by
    have h := Lib.run_append_grow_zeros w 23 3 ty 22 i0 _ .i64 .i64 Try.underlying23 Try.underlying3 hi0 hz0 none 0 0 [] (run_firstCells_none w.drew i0.size 0 0 0) n h0 (by omega) (by omega) (by omega) (by rw [hby0]; omega) (by rw [hby0, Nat.zero_add]; exact growslice_fits (by omega) hn)
    rw [Nat.zero_add] at h
    exact h
  obtain ⟨G, hG⟩ : ∃ G, G = grownCap w n 0 22 := ⟨_, rfl⟩
  have hGn : n ≤ grownCap w n 0 22 := grownCap_ge w _ _ _
  have hGx := grownCap_le_maxLen w n 0 22 (by unfold maxLen; omega)
  rw [← hG] at hrz hGn hGx
  have HGX := Lib.hid hGx
  have hG63 : G ≤ 9223372036854775807 := by unfold maxLen at hGx; omega
  clear hG hGx
  have q1 : decide ((n : Int) < 0) = false := by simp
  have q2 : decide ((0 : Int) < (n : Int)) = true := by simp; omega
  have h1 : (0 : Int) < (n : Int) := by omega
  go_enter Try.func63, Try.ntmps63
  go_wp2_with (at_builtin; refine Lib.wpList_append_run _ rfl _ _ _ _ rfl _ _ rfl rfl _ _ (hrz _) ?_)
  go_ret
  refine ⟨G, rfl, ⟨rfl, .inr ⟨w.heap.size, G, _, rfl, Nat.le_refl _, heap_alloc_new w.drew _, by omega, HGX.out, by simp [Builtin.zeroCells]; omega, by simp⟩⟩, ?_⟩
  exact below_ofDrew ((Below.refl _ w.drew).alloc (Nat.le_refl _) _)

/-- A new row of byte slices that read as m. -/
def CatRet (m : List (List UInt8)) (w : World) (e : Ending) (w' : World) : Prop := ∃ A c, e = .returned (.slice A m.length c) ∧ MS w' A m.length c m ∧ Below w.heap.size w w'
theorem gR_append {a b : List (List UInt8)} (k : Nat) : gR (a ++ b) k = if k < a.length then gR a k else gR b (k - a.length) := by
  by_cases h : k < a.length
  · rw [if_pos h, gR_append_left h]
  · rw [if_neg h]; simp [gR, List.getD, List.getElem?_append_right (Nat.le_of_not_lt h)]

set_option maxRecDepth 100000 in
set_option maxHeartbeats 1000000 in
theorem concat_any (g : Nat) (A1 A2 : Option Addr) (n1 c1 n2 c2 : Nat) (m1 m2 : List (List UInt8)) (w : World) (hg : Blk w g 23 #[.slice A1 n1 c1, .slice A2 n2 c2]) (h1 : MS w A1 n1 c1 m1) (h2 : MS w A2 n2 c2 m2) (h0 : 0 < n1) (hn1 : n1 ≤ 100000) (hn2 : n2 ≤ 100000) :
    Calls Try.prog 43 #[.slice (some ⟨g, 0, none⟩) 2 2] w (CatRet (m1 ++ m2) w) := by
  have d1 : w.cell? ⟨g, 0, none⟩ = some (.slice A1 n1 c1) := by rw [hg.cell]; rfl
  have d2 : w.cell? ⟨g, 1, none⟩ = some (.slice A2 n2 c2) := by rw [hg.cell]; rfl
  obtain ⟨p1, l1, k1, r1⟩ := h1.list
  obtain ⟨p2, l2, k2, r2⟩ := h2.list
  have HP1 := Lib.hid (⟨l1, k1, r1⟩ : p1.length = n1 ∧ _ ∧ _)
  have HP2 := Lib.hid (⟨l2, k2, r2⟩ : p2.length = n2 ∧ _ ∧ _)
  have HG := Lib.hid hg
  have HM : Hid (m1.length = n1 ∧ m2.length = n2) := Lib.hid ⟨h1.1, h2.1⟩
  clear l1 k1 r1 l2 k2 r2 hg h1 h2
  go_enter Try.func43, Try.ntmps43
  go_wp2_with fail
  go_loop [3, 11] (fun s i => (s = .int .i64 0 ∧ i = .int .i64 0) ∨ (s = .int .i64 (n1 : Int) ∧ i = .int .i64 1) ∨ (s = .int .i64 ((n1 : Int) + (n2 : Int)) ∧ i = .int .i64 2)) (fun _ i => 2 - (intOf i).toNat)
  case atStart => exact .inl ⟨rfl, rfl⟩
  case round =>
    rcases hrel with ⟨rfl, rfl⟩ | ⟨rfl, rfl⟩ | ⟨rfl, rfl⟩
    · have q : decide ((n1 : Int) < 0) = false := by simp
      go_wp2_with fail
      go_round
      case rel => exact .inr (.inl ⟨rfl, rfl⟩)
      case measure => simp [intOf]
    · have q : decide ((n1 : Int) + (n2 : Int) < 0) = false := by simp; omega
      go_wp2_with fail
      go_round
      case rel => exact .inr (.inr ⟨rfl, rfl⟩)
      case measure => simp [intOf]
    · have hgr := grow_nil (n1 + n2) w (by omega) (by omega)
      rw [Int.natCast_add] at hgr
      have HGR := Lib.hid hgr
      clear hgr
      go_wp2_with fail
      refine HGR.out.mono ?_
      rintro e w1 ⟨c3, rfl, ho1, hb1⟩
      have HO1 := Lib.hid ho1
      have HB1 := Lib.hid hb1
      clear ho1 hb1 HGR d1 d2
      go_wp2_with fail
      go_loopw [6, 27] (fun v i wr => (i = .int .i64 0 ∧ Hid (wr.ownsRow w.heap.size 22 1 v 0 []) ∧ Hid (Below w.heap.size w wr)) ∨ (i = .int .i64 1 ∧ Hid (wr.ownsRow w.heap.size 22 1 v n1 p1) ∧ Hid (Below w.heap.size w wr)) ∨ (i = .int .i64 2 ∧ Hid (wr.ownsRow w.heap.size 22 1 v (n1 + n2) (p1 ++ p2)) ∧ Hid (Below w.heap.size w wr))) (fun _ i _ => 2 - (intOf i).toNat)
      case atStart => exact .inl ⟨rfl, HO1, HB1⟩
      case round =>
        rcases hrel with ⟨rfl, ho, hb⟩ | ⟨rfl, ho, hb⟩ | ⟨rfl, ho, hb⟩
        · have hg := HG.out.kept hb.out
          have d1 : wr.cell? ⟨g, 0, none⟩ = some (.slice A1 n1 c1) := by rw [hg.cell]; rfl
          clear hg
          have HC : Hid (Cells wr A1 n1 (fun k => p1.getD k undef)) := Lib.hid (HP1.out.2.1.kept hb.out)
          have H1 : Hid (∀ u ∈ p1, u.oneCell' = true) := Lib.hid (fun u hu => by
            obtain ⟨j, hj, rfl⟩ := List.getElem_of_mem hu
            obtain ⟨A', n', c', e, _⟩ := HP1.out.2.2 j (by rw [← HP1.out.1]; exact hj)
            rw [List.getElem?_eq_getElem hj] at e
            rw [Option.some.inj e]; rfl)
          go_wp2_with (first
            | (at_builtin; refine wpList_app _ rfl (.tmp 31) (.tmp 32) 23 rfl w.heap.size 22 (.slice none 0 0) 24 Try.underlying23 infoBytes rfl u6 0 [] rfl ho.out A1 n1 c1 p1 rfl HP1.out.1 HC.out H1.out (by omega) (by omega) hb.out.size ?_; intro v4 w6 hp4))
          have HR : Hid (w6.ownsRow w.heap.size 22 1 v4 n1 p1 ∧ Below w.heap.size w w6) := by
            refine Lib.hid ⟨?_, hb.out.grown hp4.2.1 hb.out.size (fun b hb' => own_base ho.out b hb')⟩
            have := hp4.1
            rw [Nat.zero_add, List.nil_append] at this
            exact this
          clear hp4
          go_roundw
          case rel => exact .inr (.inl ⟨rfl, Lib.hid HR.out.1, Lib.hid HR.out.2⟩)
          case measure => simp [intOf]
        · have hg := HG.out.kept hb.out
          have d2 : wr.cell? ⟨g, 1, none⟩ = some (.slice A2 n2 c2) := by rw [hg.cell]; rfl
          clear hg
          have HC : Hid (Cells wr A2 n2 (fun k => p2.getD k undef)) := Lib.hid (HP2.out.2.1.kept hb.out)
          have H1 : Hid (∀ u ∈ p2, u.oneCell' = true) := Lib.hid (fun u hu => by
            obtain ⟨j, hj, rfl⟩ := List.getElem_of_mem hu
            obtain ⟨A', n', c', e, _⟩ := HP2.out.2.2 j (by rw [← HP2.out.1]; exact hj)
            rw [List.getElem?_eq_getElem hj] at e
            rw [Option.some.inj e]; rfl)
          go_wp2_with (first
            | (at_builtin; refine wpList_app _ rfl (.tmp 31) (.tmp 32) 23 rfl w.heap.size 22 (.slice none 0 0) 24 Try.underlying23 infoBytes rfl u6 n1 p1 rfl ho.out A2 n2 c2 p2 rfl HP2.out.1 HC.out H1.out (by omega) (by omega) hb.out.size ?_; intro v4 w6 hp4))
          have HR : Hid (w6.ownsRow w.heap.size 22 1 v4 (n1 + n2) (p1 ++ p2) ∧ Below w.heap.size w w6) := by
            exact Lib.hid ⟨hp4.1, hb.out.grown hp4.2.1 hb.out.size (fun b hb' => own_base ho.out b hb')⟩
          clear hp4
          go_roundw
          case rel => exact .inr (.inr ⟨rfl, Lib.hid HR.out.1, Lib.hid HR.out.2⟩)
          case measure => simp [intOf]
        · have HR : Hid (CatRet (m1 ++ m2) w (.returned u6) wr) := Lib.hid (by
            obtain ⟨hm1, hm2⟩ := HM.out
            have hml : (m1 ++ m2).length = n1 + n2 := by rw [List.length_append, hm1, hm2]
            rcases ho.out.2 with ⟨_, h9⟩ | ⟨g1, cap, cur, rfl, hbg, hh, hnc, _, hsz, htk⟩
            · omega
            · refine ⟨_, cap, by rw [hml], ?_, hb.out⟩
              rw [hml]
              refine ⟨hml, hnc, by unfold lim; omega, fun k hk => ?_⟩
              by_cases hk1 : k < n1
              · obtain ⟨A', n', c', e, hbs⟩ := HP1.out.2.2 k hk1
                refine ⟨g1, 0, A', n', c', rfl, ?_, ?_⟩
                · rw [Nat.zero_add, ho.out.cellAt k (by omega), List.getElem?_append_left (by rw [HP1.out.1]; exact hk1)]; exact e
                · rw [gR_append, if_pos (by rw [hm1]; exact hk1)]; exact hbs.kept hb.out
              · obtain ⟨A', n', c', e, hbs⟩ := HP2.out.2.2 (k - n1) (by omega)
                refine ⟨g1, 0, A', n', c', rfl, ?_, ?_⟩
                · rw [Nat.zero_add, ho.out.cellAt k (by omega), List.getElem?_append_right (by rw [HP1.out.1]; omega), HP1.out.1]; exact e
                · rw [gR_append, if_neg (by rw [hm1]; exact hk1), hm1]; exact hbs.kept hb.out)
          go_wp2_with fail
          go_ret
          exact HR.out

set_option maxHeartbeats 400000 in
theorem evaluator_any (A : Option Addr) (n c : Nat) (w : World) :
    Calls Try.prog 42 #[.slice A n c] w fun e w' => e = .returned (.func (.func 61) #[] #[.pointer (some ⟨w.heap.size, 0, none⟩)]) ∧ w' = w.alloc (.cells #[.slice A n c] 23) := by
  have hmf : ∀ (fn : Fn) (first cap : Array Value) (w : World), (Instr.makeFunc fn first cap).run Try.prog w = .ok (.func fn first cap) w := fun _ _ _ _ => rfl
  go_enter Try.func42, Try.ntmps42
  go_wp2
  go_ret
  exact ⟨rfl, rfl⟩
end Go.Proofs.Ytakedococfklgaa
