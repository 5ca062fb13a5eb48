/- Several texts in one: Ev, Sp0, Sp1, Sp2. -/
import Derived.RangeFuncNested
import Derived.RangeFuncBound
import Derived.RangeFuncCalls
import Derived.RangeFuncLeaves
import Derived.RangeFuncBox
import Derived.Shelf.Abstract
import Derived.Shelf.RegionOpen
import Derived.OwnWalkIn
import Derived.TacticsInMore
import Derived.LoopNIn
import Derived.LoopIn
import Derived.Test.YtakedococfklgaaB2
import Derived.Lib.AppendZerosOnto
import Derived.Lib.Walk
/- slices.Backward over [][]byte and shamir.evaluator's function: Horner's rule over lists of bytes. -/
namespace Go.Proofs.Ytakedococfklgaa
open Go.RowKit Go.Shelf Gf

attribute [local go_sem] Oper.semAt_some

/-- n - 1, n - 2, .. : j of them. -/
def down (n : Nat) : Nat → List (Fin n)
  | 0 => []
  | j + 1 => if h : n - 1 - j < n then down n j ++ [⟨n - 1 - j, h⟩] else down n j
theorem down_succ {n j : Nat} (h : j < n) : down n (j + 1) = down n j ++ [⟨n - 1 - j, by omega⟩] := by
  rw [down, dif_pos (by omega)]
theorem down_length {n : Nat} : ∀ j, j ≤ n → (down n j).length = j
  | 0, _ => rfl
  | j + 1, h => by rw [down_succ (by omega), List.length_append, down_length j (by omega)]; rfl

theorem zip2 (t : Array Value) (p q : Tmp) (u v : Value) : ((#[p, q] : Array Tmp).zip #[u, v]).foldl (fun t (p, v) => t.setIfInBounds p v) t = (t.setIfInBounds p u).setIfInBounds q v := by simp [Array.zip]
/-- What a round keeps: what lay below n₀, and one box. -/
def BK (n₀ Bs : Nat) (W W' : World) : Prop := Below n₀ W W' ∧ ∀ v, W.cell? ⟨Bs, 0, none⟩ = some v → W'.cell? ⟨Bs, 0, none⟩ = some v
theorem BK.refl (n₀ Bs : Nat) (W : World) : BK n₀ Bs W W := ⟨Below.refl _ _, fun _ h => h⟩
theorem BK.trans {n₀ Bs : Nat} {A B C : World} (h : BK n₀ Bs A B) (k : BK n₀ Bs B C) : BK n₀ Bs A C := ⟨h.1.trans k.1, fun v hv => k.2 v (h.2 v hv)⟩
theorem BK.put {n₀ Bs : Nat} {w : World} (hn : n₀ ≤ w.heap.size) (W : World) (l : Nat) (o o' : Obj) (hl : w.heap.size ≤ l) (h : W.heap[l]? = some o) (hc : o.isCells = false) (hw : o.isWalk = false) : BK n₀ Bs W (W.putObj l o') :=
  ⟨belowK_b hn W l o o' hl h hc hw, fun v hv => by
    by_cases e : Bs = l
    · subst e
      exfalso
      simp only [World.cell?, h] at hv
      cases o <;> simp_all [Obj.isCells]
    · exact (World.cell?_of_block (World.putObj_heap_other e)).trans hv⟩

set_option maxRecDepth 100000 in
set_option maxHeartbeats 2000000 in
theorem back1_in (F : Fence) (d : Nat) (h7 : F.fn 84) (hro : F.round = none) (hd : 1 ≤ d) (l Bs n₀ b off n cap : Nat) (ps : Nat → Value) (hreach : n ≤ 140737488355328) (hb : b < n₀) (J Jx : List (Fin n) → World → Prop)
    (hY : ∀ pre x W, J pre W → pre.length < n → YieldAt F (d - 1) Try.prog l #[.int .i64 (x.1 : Int), ps x.1] W fun e W' =>
      (e = .returned (.bool true) ∧ J (pre ++ [x]) W' ∧ BK n₀ Bs W W') ∨ (e = .returned (.bool false) ∧ Jx (pre ++ [x]) W'))
    (W : World) (hBs : W.cell? ⟨Bs, 0, none⟩ = some (.slice (some ⟨b, off, none⟩) n cap)) (hc : ∀ j, j < n → W.cell? ⟨b, off + j, none⟩ = some (ps j)) (h0 : J [] W) :
    CallsIn F d Try.prog 84 #[.func (.yield l) #[] #[], .pointer (some ⟨Bs, 0, none⟩)] W fun e W' => (∃ v, e = .returned v) ∧
      ((∃ ys, ys = down n n ∧ J ys W') ∨ (∃ pre, (∃ k, k ≤ n ∧ pre = down n k) ∧ Jx pre W')) := by
  refine callsIn_of_wp Try.func84 rfl h7 ?_ hro
  simp only [Try.ntmps84, List.size_toArray, List.length_cons, List.length_nil, Nat.reduceAdd, Nat.reduceSub, Array.replicate_succ, Array.replicate_zero, List.push_toArray, List.append_toArray, List.nil_append, List.cons_append]
  gi_wp2
  gi_loopw [3] (fun i wr => ∃ (z : Int) (k : Nat), i = .int .i64 z ∧ -1 ≤ z ∧ z < n ∧ Hid (z + 1 + k = n) ∧ Hid (k ≤ n) ∧ Hid (J (down n k) wr) ∧ Hid (BK n₀ Bs W wr))
    (fun i _ => (intOf i + 1).toNat)
  case atStart => exact ⟨(n : Int) - 1, 0, rfl, by omega, by omega, Lib.hid (by omega), Lib.hid (by omega), Lib.hid h0, Lib.hid (BK.refl _ _ _)⟩
  case round =>
    obtain ⟨z, k, rfl, hz1, hz2, hzk, hkn, hJs, hnx⟩ := hrel
    by_cases hz0 : z < 0
    · have q : decide (0 ≤ z) = false := by simp; omega
      have HK : Hid (k = n) := Lib.hid (by have := hzk.out; omega)
      gi_wp2
      go_end0
      refine ⟨⟨_, rfl⟩, .inl ⟨_, rfl, ?_⟩⟩
      have := hJs.out
      rw [HK.out] at this
      exact this
    · obtain ⟨j, rfl⟩ : ∃ j : Nat, z = (j : Int) := ⟨z.toNat, by omega⟩
      have hj : j < n := by omega
      have hj' : (j : Int) < (n : Int) := by omega
      have hbs := hnx.out.2 _ hBs
      have hcx : wr.cell? ⟨b, off + j, none⟩ = some (ps j) := (hnx.out.1.cell (p := ⟨b, off + j, none⟩) hb).trans (hc j hj)
      have hkl : k < n := by have := hzk.out; omega
      have HKJ : Hid (n - 1 - k = j) := Lib.hid (by have := hzk.out; omega)
      have HDS : Hid (down n (k + 1) = down n k ++ [⟨j, hj⟩]) := Lib.hid (by
        rw [down_succ hkl]; congr 2; exact Fin.ext HKJ.out)
      obtain ⟨fn, tmps, assign, body, hy, hR⟩ := hY _ ⟨j, hj⟩ wr hJs.out (by rw [down_length k (by omega)]; exact hkl)
      dsimp only at hy
      have HHR := Lib.hid hR
      clear hR hc hBs hY
      gi_wp2
      refine HHR.out.mono ?_
      rintro e W3 (⟨rfl, hJ3, hk3⟩ | ⟨rfl, hJx3⟩)
      · have H3 : Hid (J (down n (k + 1)) W3) := Lib.hid (by rw [HDS.out]; exact hJ3)
        have HB3 := Lib.hid (hnx.out.trans hk3)
        clear hJ3 hk3
        gi_wp2
        go_roundw
        case rel => exact ⟨(j : Int) - 1, k + 1, rfl, by omega, by omega, Lib.hid (by have := hzk.out; omega), Lib.hid (by omega), H3, HB3⟩
        case measure => simp [intOf]
      · gi_wp2
        refine bodyPost_ret (results_none rfl _ _ _) rfl ?_
        exact ⟨⟨_, rfl⟩, .inr ⟨_, ⟨k + 1, by omega, HDS.out.symm⟩, hJx3⟩⟩

theorem back_stops (F : Fence) (d : Nat) (h7 : F.fn 84) (hro : F.round = none) (hd : 1 ≤ d) (Bs n₀ b off n cap : Nat) (ps : Nat → Value) (hreach : n ≤ 140737488355328) (hb : b < n₀) (w : World) (hBl : Bs < w.heap.size) (hn₀ : n₀ ≤ w.heap.size)
    (hBs : w.cell? ⟨Bs, 0, none⟩ = some (.slice (some ⟨b, off, none⟩) n cap)) (hc : ∀ j, j < n → w.cell? ⟨b, off + j, none⟩ = some (ps j)) :
    SeqStopsK F d Try.prog 84 #[.pointer (some ⟨Bs, 0, none⟩)] (fun x : Fin n => #[Value.int .i64 (x.1 : Int), ps x.1]) (BK n₀ Bs) (fun ys => ys = down n n) (fun _ => True) n w := fun l J Jx W hW _ _ hY h0 => by
  refine (back1_in F d h7 hro hd l Bs n₀ b off n cap ps hreach hb J Jx hY W ((hW.cell (p := ⟨Bs, 0, none⟩) hBl).trans hBs) (fun j hj => (hW.cell (p := ⟨b, off + j, none⟩) (by show b < w.heap.size; omega)).trans (hc j hj)) h0).mono ?_
  rintro e W' ⟨he, ⟨ys, rfl, hj⟩ | ⟨pre, _, hj⟩⟩
  · exact ⟨he, .inl ⟨_, rfl, hj⟩⟩
  · exact ⟨he, .inr ⟨_, trivial, hj⟩⟩

set_option maxHeartbeats 1000000 in
theorem back_in (F : Fence) (d : Nat) (h5 : F.fn 62) (hro : F.round = none) (a : Option Addr) (len cap : Nat) (w : World) :
    CallsIn F d Try.prog 62 #[.slice a len cap] w fun e w' => e = .returned (.func (.func 84) #[] #[.pointer (some ⟨w.heap.size, 0, none⟩)]) ∧ w' = w.alloc (.cells #[.slice a len cap] 23) := by
  refine callsIn_of_wp Try.func62 rfl h5 ?_ hro
  simp only [Try.ntmps62, List.size_toArray, List.length_cons, List.length_nil, Nat.reduceAdd, Nat.reduceSub, Array.replicate_succ, Array.replicate_zero, List.push_toArray, List.append_toArray, List.nil_append, List.cons_append]
  gi_wp2
  go_ret
  exact ⟨rfl, rfl⟩

/-! ### the caller -/
/-- Horner's rule over the rows that have come. -/
def hvL {n : Nat} (m : List (List UInt8)) (x : UInt8) (L : Nat) (pre : List (Fin n)) : List UInt8 := pre.foldl (fun v k => muladd (gR m k.1) v x) (zeros L)
theorem hvL_snoc {n : Nat} (m : List (List UInt8)) (x : UInt8) (L : Nat) (pre : List (Fin n)) (k : Fin n) : hvL m x L (pre ++ [k]) = muladd (gR m k.1) (hvL m x L pre) x := by
  unfold hvL; rw [List.foldl_append]; rfl
theorem hvL_length {n : Nat} {m : List (List UInt8)} {L : Nat} (hm : ∀ k, k < n → (gR m k).length = L) (x : UInt8) (pre : List (Fin n)) : (hvL m x L pre).length = L := by
  unfold hvL
  suffices h : ∀ (v : List UInt8), v.length = L → (pre.foldl (fun v k => muladd (gR m k.1) v x) v).length = L from h _ (zeros_length L)
  induction pre with
  | nil => intro v hv; exact hv
  | cons k ks ih => intro v hv; rw [List.foldl_cons]; exact ih _ (by rw [muladd_length _ _ _ (by rw [hm k.1 k.2, hv]), hv])
/-- Horner's rule from the last row on: j rows. -/
def hor (m : List (List UInt8)) (x : UInt8) (L : Nat) : Nat → List UInt8
  | 0 => zeros L
  | j + 1 => muladd (gR m (m.length - 1 - j)) (hor m x L j) x
theorem hvL_down {m : List (List UInt8)} (x : UInt8) (L : Nat) : ∀ j, j ≤ m.length → hvL m x L (down m.length j) = hor m x L j
  | 0, _ => rfl
  | j + 1, h => by rw [down_succ (by omega), hvL_snoc, hvL_down x L j (by omega)]; rfl
/-- The values of the polynomials of all bytes. -/
def evl (m : List (List UInt8)) (x : UInt8) : List UInt8 := hor m x (gR m 0).length m.length

theorem grown_cell {W W' : World} {row : Option Nat} (hg : W.grownBy W' row) (hr : ∀ r, row = some r → ∃ o : Obj, W.heap[r]? = some o ∧ o.isCells = false) {p : Addr} {v : Value} (h : W.cell? p = some v) : W'.cell? p = some v := by
  refine (World.cell?_of_block (hg.block p.block (cell_lt h) (fun e => ?_))).trans h
  obtain ⟨o, ho, hc⟩ := hr p.block e.symm
  simp only [World.cell?, ho] at h
  cases o <;> simp_all [Obj.isCells]
theorem grown_blk' {W W' : World} {row : Option Nat} (hg : W.grownBy W' row) (hr : ∀ r, row = some r → ∃ o : Obj, W.heap[r]? = some o ∧ o.isCells = false) {g : Nat} {t : TypeId} {cs : Array Value} (h : Blk W g t cs) : Blk W' g t cs := by
  refine (hg.block g h.lt (fun e => ?_)).trans h
  obtain ⟨o, ho, hc⟩ := hr g e.symm
  unfold Blk at h
  rw [h] at ho
  cases ho
  cases hc
theorem keeps_below {W W' : World} (h : Below W.heap.size W W') : KeepsOthers W W' := ⟨h.size, fun k _ ho _ => (h.block k (Array.getElem?_eq_some_iff.1 ho).1).trans ho⟩

/-- The box of the values. -/
def VBox (W : World) (lo g L : Nat) (l : List UInt8) : Prop := ∃ A c, Blk W g 22 #[.slice A L c] ∧ BS W A L c l ∧ AtB A (fun b => lo ≤ b ∧ b ≠ g)
theorem VBox.grown {W W' : World} {row : Option Nat} {lo g L : Nat} {l : List UInt8} (h : VBox W lo g L l) (hg : W.grownBy W' row) (hr : ∀ r, row = some r → ∃ q : Obj, W.heap[r]? = some q ∧ q.isCells = false) : VBox W' lo g L l := by
  obtain ⟨A, c, h1, h2, h3⟩ := h
  exact ⟨A, c, grown_blk' hg hr h1, ⟨h2.1, h2.2.1, h2.2.2.1, fun k hk => let ⟨g, o', e, hc⟩ := h2.2.2.2 k hk; ⟨g, o', e, grown_cell hg hr hc⟩⟩, h3⟩

set_option maxRecDepth 100000 in
set_option maxHeartbeats 2000000 in
theorem eval1_any (gB' : Nat) (A : Option Addr) (n cap L : Nat) (m : List (List UInt8)) (x : UInt8) (w : World) (hbx : w.cell? ⟨gB', 0, none⟩ = some (.slice A n cap)) (h : MS w A n cap m) (h0 : 0 < n) (hL : ∀ k, k < n → (gR m k).length = L) :
    Calls Try.prog 61 #[.int .i64 (bv x), .pointer (some ⟨gB', 0, none⟩)] w (Rets (GvB (evl m x)) w) := by
  have hn := h.len_le
  obtain ⟨g, o, A0, n0, c0, rfl, hc0, hr0⟩ := h.at_ (Below.refl _ _) h0
  obtain rfl : n0 = L := by rw [← hr0.1]; exact hL 0 h0
  obtain ⟨ps, hps⟩ : ∃ ps : Nat → Value, ∀ k, k < n → w.cell? ⟨g, o + k, none⟩ = some (ps k) ∧ ∃ A' n' c', ps k = .slice A' n' c' ∧ BS w A' n' c' (gR m k) := by
    refine ⟨fun k => (w.cell? ⟨g, o + k, none⟩).getD undef, fun k hk => ?_⟩
    obtain ⟨g', o', A', n', c', e, h1, h2⟩ := h.2.2.2 k hk
    cases Option.some.inj e
    exact ⟨by simp only [h1, Option.getD_some], A', n', c', by simp only [h1, Option.getD_some], h2⟩
  have hgl : g < w.heap.size := cell_lt hc0
  have hbl : gB' < w.heap.size := cell_lt hbx
  have HE : Hid (hvL m x n0 (down n n) = evl m x) := Lib.hid (by
    have h1 := h.1
    subst h1
    rw [hvL_down x n0 _ (Nat.le_refl _), evl, hL 0 h0])
  have hmk := make_bytes n0 hr0.len_le
  have hn0 := hr0.len_le
  rw [Nat.add_zero] at hc0
  clear hr0
  have hb3 : Below w.heap.size w (((w.alloc (.cells #[.int .i64 (bv x)] 3)).alloc (.cells (row (zeros n0)) 5)).alloc (.cells #[.slice (some ⟨w.heap.size + 1, 0, none⟩) n0 n0] 22)) := (((Below.refl _ _).alloc (Nat.le_refl _) _).alloc (by simp) _).alloc (by simp; omega) _
  have hbx3 := cell_kept hb3 hbx
  have HB3 := Lib.hid hb3
  have HPS := Lib.hid hps
  have HLL := Lib.hid hL
  clear hb3 hps hL
  refine (callsIn_wide (n := 3)).1 ?_
  refine callsIn_of_wp_marks Try.func61 rfl trivial ?_ rfl
  simp only [Try.ntmps61, List.size_toArray, List.length_cons, List.length_nil, Nat.reduceAdd, Nat.reduceSub, Array.replicate_succ, Array.replicate_zero, List.push_toArray, List.append_toArray, List.nil_append, List.cons_append]
  gi_wp2_with (refine ⟨trivial, ?_⟩; gi_at_call 62; refine (back_in Fence.wide _ trivial rfl _ _ _ _).mono ?_; rintro e w' ⟨rfl, rfl⟩)
  clear hmk hbx hbx3 hc0
  obtain ⟨W3, hW3⟩ : ∃ W3, W3 = ((w.alloc (.cells #[.int .i64 (bv x)] 3)).alloc (.cells (row (zeros n0)) 5)).alloc (.cells #[.slice (some ⟨w.heap.size + 1, 0, none⟩) n0 n0] 22) := ⟨_, rfl⟩
  have hx3 : Blk W3 w.heap.size 3 #[.int .i64 (bv x)] := by rw [hW3]; exact ((Blk.new w _ _).alloc _).alloc _
  have hz3 : Blk W3 (w.heap.size + 1) 5 (row (zeros n0)) := by
    rw [hW3]
    have := (Blk.new (w.alloc (.cells #[.int .i64 (bv x)] 3)) 5 (row (zeros n0))).alloc (.cells #[.slice (some ⟨w.heap.size + 1, 0, none⟩) n0 n0] 22)
    rw [World.size_alloc] at this
    exact this
  have hv3 : Blk W3 (w.heap.size + 1 + 1) 22 #[.slice (some ⟨w.heap.size + 1, 0, none⟩) n0 n0] := by
    rw [hW3]
    have := Blk.new ((w.alloc (.cells #[.int .i64 (bv x)] 3)).alloc (.cells (row (zeros n0)) 5)) 22 #[.slice (some ⟨w.heap.size + 1, 0, none⟩) n0 n0]
    rw [World.size_alloc, World.size_alloc] at this
    exact this
  have hs3 : W3.heap.size = w.heap.size + 3 := by rw [hW3]; simp
  rw [← hW3] at HB3 ⊢
  have e3 : w.heap.size + 1 + 1 + 1 = W3.heap.size := by omega
  rw [e3]
  clear hW3
  have hB4 : Below w.heap.size w (W3.alloc (.cells #[.slice (some ⟨g, o, none⟩) n cap] 23)) := HB3.out.alloc HB3.out.size _
  have hx4 := hx3.alloc (.cells #[.slice (some ⟨g, o, none⟩) n cap] 23)
  have hz4 := hz3.alloc (.cells #[.slice (some ⟨g, o, none⟩) n cap] 23)
  have hv4 := hv3.alloc (.cells #[.slice (some ⟨g, o, none⟩) n cap] 23)
  have hl4 := Blk.new W3 23 #[.slice (some ⟨g, o, none⟩) n cap]
  have hbs4 : (W3.alloc (.cells #[.slice (some ⟨g, o, none⟩) n cap] 23)).cell? ⟨W3.heap.size, 0, none⟩ = some (.slice (some ⟨g, o, none⟩) n cap) := by rw [hl4.cell]; rfl
  refine wpIn_rangeFunc_ownF rfl (by omega) (gf := 84) (lb := #[.pointer (some ⟨W3.heap.size, 0, none⟩)]) rfl trivial (enters_of Try.func84 (by kernel_rfl) rfl)
    (back_stops Fence.wide (3 - 1) trivial rfl (by omega) W3.heap.size w.heap.size g o n cap ps (by omega) hgl _ (by simp) (by simp; omega) hbs4 (fun j hj => cell_kept hB4 (HPS.out j hj).1)) BK.trans (BK.put (by simp; omega)) (Below.refl _ _) (fun _ => rfl)
    (fun pre W => (VBox W w.heap.size (w.heap.size + 1 + 1) n0 (hvL m x n0 pre) ∧ Blk W w.heap.size 3 #[.int .i64 (bv x)] ∧ Blk W W3.heap.size 23 #[.slice (some ⟨g, o, none⟩) n cap]) ∧ Below w.heap.size w W)
    (fun _ _ _ => False)
    (OwnFrom.and (Own.from (fun s X Y row hs hg hr => ⟨hs.1.grown hg hr, grown_blk' hg hr hs.2.1, grown_blk' hg hr hs.2.2⟩) _) (ownFrom_below (Nat.le_refl _) (by simp; omega)))
    (fun _ _ _ _ _ hs _ _ => hs)
    ⟨⟨⟨_, n0, hv4, BS.of_blk hz4 (zeros_length _) (by unfold lim; omega), (fun a e => by cases e; exact ⟨by simp, by simp⟩)⟩, hx4, hl4⟩, hB4⟩
    (fun y => { tmps := #[.int .i64 (bv x), .pointer (some ⟨gB', 0, none⟩), .pointer (some ⟨w.heap.size, 0, none⟩), .slice none 0 0, .pointer (some ⟨w.heap.size + 1 + 1, 0, none⟩), undef, ps y.1, .slice (some ⟨g, o, none⟩) n cap, .pointer (some ⟨g, o, none⟩), .slice A0 n0 c0, .int .i64 (n0 : Int), .slice (some ⟨w.heap.size + 1, 0, none⟩) n0 n0, .slice (some ⟨g, o, none⟩) n cap, .func (.func 84) #[] #[.pointer (some ⟨W3.heap.size, 0, none⟩)], .int .i64 (y.1 : Int), ps y.1, undef, undef, undef, undef, undef, undef, undef, undef, undef], defers := [] }) ?assign ?body ?done ?stop
  case assign =>
    intro l y W K hK
    simp only [zip2, List.setIfInBounds_toArray, List.set_cons_succ, List.set_cons_zero]
    gi_wp2
    exact hK
  case body =>
    rintro l pre y W ⟨⟨⟨A1, c1, v1, v2, v3⟩, hx, hl⟩, hB⟩ _
    obtain ⟨hp1, A2, n2, c2, hp2, hp3⟩ := HPS.out y.1 y.2
    obtain rfl : n2 = n0 := by rw [← hp3.1]; exact HLL.out y.1 y.2
    have cv : W.cell? ⟨w.heap.size + 1 + 1, 0, none⟩ = some (.slice A1 n2 c1) := by rw [v1.cell]; rfl
    have cx : W.cell? ⟨w.heap.size, 0, none⟩ = some (.int .i64 (bv x)) := by rw [hx.cell]; rfl
    have hwr := bv_wrap x
    have H1 := Lib.hid v1
    have H2 := Lib.hid v2
    have H3 := Lib.hid v3
    have HX := Lib.hid hx
    have HL := Lib.hid hl
    have HB := Lib.hid hB
    have HP3 := Lib.hid (hp3.kept hB)
    rw [hp2]
    clear v1 v2 v3 hx hl hB hp1 hp3 hp2
    gi_wp2_with fail
    refine ⟨trivial, ?_⟩
    refine (CallsIn.inRound l (callsIn_wide.2 (muladd_any A2 A1 n2 c2 c1 _ _ x _ HP3.out H2.out))).mono ?_
    rintro e w4 ⟨v4, rfl, g4, n4, rfl, h41, h42, h43, h44⟩
    have H41 := Lib.hid h41
    have H42 := Lib.hid h42
    have H43 := Lib.hid h43
    have H44 := Lib.hid h44
    have c4 : w4.cell? ⟨w.heap.size + 1 + 1, 0, none⟩ = some (.slice A1 n2 c1) := by rw [(H1.out.kept h44).cell]; rfl
    have f4 := (H1.out.kept h44).frozen 0
    clear h41 h42 h43 h44
    dsimp only
    gi_wp2_with fail
    obtain rfl : n4 = n2 := by rw [← H41.out, muladd_length _ _ _ (by rw [HP3.out.1, H2.out.1]), H2.out.1]
    have hsz := HB.out.size
    have h4 := H42.out
    have hne4 : g4 ≠ w.heap.size + 1 + 1 := by have := H1.out.lt; omega
    refine ⟨(keeps_below H44.out).trans (KeepsOthers.setCell _ _ _), ⟨(H44.out.mono hsz).setCell (by simp; omega) _, fun v hv => ?_⟩, ⟨⟨some ⟨g4, 0, none⟩, n4, (H1.out.kept H44.out).set_ 0 _, ?_, (fun a e => by cases e; exact ⟨by simp; omega, hne4⟩)⟩, (HX.out.kept H44.out).far (by show w.heap.size ≠ w.heap.size + 1 + 1; omega) _, (HL.out.kept H44.out).far (by simp; omega) _⟩, (below_then HB.out H44.out).setCell (by simp; omega) _⟩
    · rw [World.cell?_setCell_other _ _ _ _ (by simp)]
      exact cell_kept H44.out hv
    · rw [hvL_snoc]
      exact (BS.of_blk H43.out H41.out (by unfold lim; omega)).far (fun g o e => by cases Option.some.inj e; exact hne4) _
  case done =>
    rintro D ys W hD rfl ⟨⟨⟨A1, c1, v1, v2, v3⟩, hx, hl⟩, hB⟩ hK
    have cv : W.cell? ⟨w.heap.size + 1 + 1, 0, none⟩ = some (.slice A1 n0 c1) := by rw [v1.cell]; rfl
    gi_wp2
    refine ⟨by simp, .inl ⟨_, _, rfl, run_takeDeferred hK, ?_⟩⟩
    have hr : ∀ r, some D = some r → ∃ q : Obj, W.heap[r]? = some q ∧ q.isCells = false := fun r e => by cases e; exact ⟨_, hK, rfl⟩
    refine ⟨_, results_tmp rfl _ _ _, _, rfl, A1, n0, c1, rfl, ⟨?_, v2.2.1, v2.2.2.1, fun k hk => ?_⟩, (fun a e => (v3 a e).1), hB.trans (belowK_b (w := w) (Nat.le_refl _) W D _ _ (by simp at hD; omega) hK rfl rfl)⟩
    · rw [← HE.out]; exact v2.1
    · obtain ⟨g1, o1, e1, hc1⟩ := v2.2.2.2 k hk
      rw [← HE.out]
      exact ⟨g1, o1, e1, grown_cell (grownBy_putObj' _ D (.deferred none)) hr hc1⟩
  case stop =>
    rintro D c pre W _ _ h _
    exact h.elim
end Go.Proofs.Ytakedococfklgaa
/- Rows of shares and of byte slices that a call owns; slices.Grow of nil, slices.Concat of two, shamir.evaluator. -/
namespace Go.Proofs.Ytakedococfklgaa
open Go.RowKit Gf

/-- The slices of a slice of byte slices, as a list. -/
theorem MS.list {w : World} {A : Option Addr} {n c : Nat} {m : List (List UInt8)} (h : MS w A n c m) : ∃ ps : List Value, ps.length = n ∧ Cells w A n (fun k => ps.getD k undef) ∧ ∀ j, j < n → ∃ A' n' c', ps[j]? = some (.slice A' n' c') ∧ BS w A' n' c' (gR m j) := by
  have key : ∀ k, k ≤ n → ∃ ps : List Value, ps.length = k ∧ ∀ j, j < k → ∃ g o A' n' c', A = some ⟨g, o, none⟩ ∧ ps[j]? = some (.slice A' n' c') ∧ w.cell? ⟨g, o + j, none⟩ = some (.slice A' n' c') ∧ BS w A' n' c' (gR m j) := by
    intro k
    induction k with
    | zero => intro _; exact ⟨[], rfl, fun j hj => absurd hj (by omega)⟩
    | succ k ih =>
      intro hk
      obtain ⟨ps, h1, h2⟩ := ih (by omega)
      obtain ⟨g, o, A', n', c', e, hc, hb⟩ := h.2.2.2 k (by omega)
      refine ⟨ps ++ [.slice A' n' c'], by simp [h1], fun j hj => ?_⟩
      by_cases hjk : j < k
      · obtain ⟨g1, o1, A1, n1, c1, e1, p1, q1, b1⟩ := h2 j hjk
        exact ⟨g1, o1, A1, n1, c1, e1, by rw [List.getElem?_append_left (by omega)]; exact p1, q1, b1⟩
      · obtain rfl : j = k := by omega
        exact ⟨g, o, A', n', c', e, by rw [List.getElem?_append_right (by omega), h1, Nat.sub_self]; rfl, hc, hb⟩
  obtain ⟨ps, h1, h2⟩ := key n (Nat.le_refl _)
  refine ⟨ps, h1, fun k hk => ?_, fun j hj => ?_⟩
  · obtain ⟨g, o, A', n', c', e, p, q, _⟩ := h2 k hk
    exact ⟨g, o, e, by rw [q]; simp [List.getD, p]⟩
  · obtain ⟨g, o, A', n', c', e, p, q, b⟩ := h2 j hj
    exact ⟨A', n', c', p, b⟩

theorem gR_append_left {m m' : List (List UInt8)} {j : Nat} (h : j < m.length) : gR (m ++ m') j = gR m j := by
  unfold gR; rw [List.getD_eq_getElem?_getD, List.getD_eq_getElem?_getD, List.getElem?_append_left h]
theorem gR_append_self {m : List (List UInt8)} {l : List UInt8} : gR (m ++ [l]) m.length = l := by
  unfold gR; rw [List.getD_eq_getElem?_getD, List.getElem?_append_right (Nat.le_refl _), Nat.sub_self]; rfl

/-- The cells of shares. -/
def shC (q : List (Int × Value)) : List Value := q.flatMap fun p => [.int .i64 p.1, p.2]
theorem shC_length (q : List (Int × Value)) : (shC q).length = q.length * 2 := by
  induction q with
  | nil => rfl
  | cons a q ih => simp only [shC, List.flatMap_cons, List.length_append] at ih ⊢; simp [ih]; omega
theorem shC_append (q q' : List (Int × Value)) : shC (q ++ q') = shC q ++ shC q' := by simp [shC]
theorem shC_get (q : List (Int × Value)) : ∀ (k : Nat) (p : Int × Value), q[k]? = some p → (shC q)[k * 2]? = some (.int .i64 p.1) ∧ (shC q)[k * 2 + 1]? = some p.2 := by
  induction q with
  | nil => intro k p h; simp at h
  | cons a q ih =>
    intro k p h
    cases k with
    | zero => simp at h; subst h; simp [shC]
    | succ k =>
      simp at h
      have := ih k p h
      rw [show (k + 1) * 2 = k * 2 + 1 + 1 by omega, show k * 2 + 1 + 1 + 1 = (k * 2 + 1) + 1 + 1 by omega]
      simpa [shC] using this

/-- A row of shares that the call owns; their bytes lie elsewhere. -/
def OwnS (w : World) (base : Nat) (v : Value) (n : Nat) (l : List (Int × List UInt8)) : Prop :=
  l.length = n ∧ ∃ q : List (Int × Value), q.length = n ∧ w.ownsRow base 33 2 v n (shC q) ∧ ∀ j, j < n → ∃ A k c, q[j]? = some ((gS l j).1, .slice A k c) ∧ BS w A k c (gS l j).2 ∧ (0 < k → AtB A (fun b => v.ownBlock ≠ some b))
theorem own2 {S : Nat → Prop} {w w1 : World} (h : Kp S w w1) {base : Nat} {e : TypeId} {v : Value} {n : Nat} {xs : List Value} (ho : w.ownsRow base e 2 v n xs) (hn : ∀ g, v.ownBlock = some g → ¬ S g) : w1.ownsRow base e 2 v n xs := by
  refine ⟨ho.1, ?_⟩
  rcases ho.2 with h0 | ⟨g, cap, cur, rfl, hb, hh, hr⟩
  · exact .inl h0
  · refine .inr ⟨g, cap, cur, rfl, hb, ?_, hr⟩
    have hlt : g < w.heap.size := by
      rcases Nat.lt_or_ge g w.heap.size with h1 | h1
      · exact h1
      · rw [Array.getElem?_eq_none h1] at hh; cases hh
    exact (h.block g hlt (hn g rfl)).trans hh
theorem OwnS.kept {w w' : World} {base : Nat} {v : Value} {n : Nat} {l : List (Int × List UInt8)} (h : OwnS w base v n l) (hb : Below w.heap.size w w') : OwnS w' base v n l := by
  obtain ⟨hm, q, hq, hown, hps⟩ := h
  refine ⟨hm, q, hq, own2 (S := fun _ => False) (Kp.of_below hb) hown (fun _ _ => id), fun j hj => ?_⟩
  obtain ⟨A, k, c, h1, h2, h3⟩ := hps j hj
  exact ⟨A, k, c, h1, h2.kept hb, h3⟩
theorem OwnS.ss {w : World} {base : Nat} {v : Value} {n : Nat} {l : List (Int × List UInt8)} (h : OwnS w base v n l) (hn : n * 32 ≤ lim) : ∃ A c, v = .slice A n c ∧ SS w A n c l := by
  obtain ⟨hm, q, hq, hown, hps⟩ := h
  rcases hown.2 with ⟨rfl, rfl⟩ | ⟨g, cap, cur, rfl, _, hh, hnc, _, hsz, htk⟩
  · exact ⟨none, 0, rfl, hm, Nat.le_refl _, hn, fun k hk => absurd hk (by omega)⟩
  · refine ⟨some ⟨g, 0, none⟩, cap, rfl, hm, hnc, hn, fun k hk => ?_⟩
    obtain ⟨A, k', c, h1, h2, _⟩ := hps k hk
    obtain ⟨s1, s2⟩ := shC_get q k _ h1
    exact ⟨g, 0, A, k', c, rfl, by rw [Nat.zero_add, hown.cellAt (k * 2) (by omega)]; exact s1, by rw [Nat.zero_add, hown.cellAt (k * 2 + 1) (by omega)]; exact s2, h2⟩
theorem OwnS.base {w : World} {base : Nat} {v : Value} {n : Nat} {l : List (Int × List UInt8)} (h : OwnS w base v n l) : ∀ k, v.ownBlock = some k → base ≤ k ∧ k < w.heap.size := fun k hk => by
  obtain ⟨_, q, _, hown, _⟩ := h
  exact hown.lt k hk
/-- What an append of shares leaves. -/
def AppS (base : Nat) (e : TypeId) (v : Value) (n : Nat) (xs : List Value) (v' : Value) (w w' : World) : Prop :=
  w'.ownsRow base e 2 v' (n + 1) xs ∧ w.grownBy w' v.ownBlock ∧ (v'.ownBlock = v.ownBlock ∨ v'.ownBlock = some w.heap.size)
theorem gS_append_left {m m' : List (Int × List UInt8)} {j : Nat} (h : j < m.length) : gS (m ++ m') j = gS m j := by
  unfold gS; rw [List.getD_eq_getElem?_getD, List.getD_eq_getElem?_getD, List.getElem?_append_left h]
theorem gS_append_self {m : List (Int × List UInt8)} {l : Int × List UInt8} : gS (m ++ [l]) m.length = l := by
  unfold gS; rw [List.getD_eq_getElem?_getD, List.getElem?_append_right (Nat.le_refl _), Nat.sub_self]; rfl
theorem OwnS.push {w w' : World} {base : Nat} {v v' : Value} {n : Nat} {l : List (Int × List UInt8)} {q : List (Int × Value)} (hm : l.length = n) (hq : q.length = n)
    (hps : ∀ j, j < n → ∃ A k c, q[j]? = some ((gS l j).1, .slice A k c) ∧ BS w A k c (gS l j).2 ∧ (0 < k → AtB A (fun b => v.ownBlock ≠ some b)))
    {A : Option Addr} {k c : Nat} {x : Int} {d : List UInt8} (hl : BS w A k c d) (hA : 0 < k → AtB A (fun b => v.ownBlock ≠ some b))
    (hp : AppS base 33 v n (shC q ++ [.int .i64 x, .slice A k c]) v' w w') : OwnS w' base v' (n + 1) (l ++ [(x, d)]) := by
  have hK : Kp (fun b => v.ownBlock = some b) w w' := (Kp.refl _ _).grown hp.2.1 (fun _ e => .inl e)
  have hrow : ∀ (A : Option Addr) (k c : Nat) (l : List UInt8), BS w A k c l → (0 < k → AtB A (fun b => v.ownBlock ≠ some b)) → BS w' A k c l ∧ (0 < k → AtB A (fun b => v'.ownBlock ≠ some b)) := by
    intro A k c l hb hA
    refine ⟨⟨hb.1, hb.2.1, hb.2.2.1, fun i hi => ?_⟩, fun h0 a e e' => ?_⟩
    · obtain ⟨g, o, e, hc⟩ := hb.2.2.2 i hi
      exact ⟨g, o, e, hK.cell hc (hA (by omega) ⟨g, o, none⟩ e)⟩
    · rcases hp.2.2 with h1 | h1
      · exact hA h0 a e (h1.symm.trans e')
      · obtain ⟨g', o', e2, hc⟩ := hb.2.2.2 0 h0
        rw [e] at e2
        injection e2 with e2
        have := cell_lt hc
        rw [h1] at e'
        injection e' with e'
        rw [e2] at e'
        simp only at this e'
        omega
  refine ⟨by simp [hm], q ++ [(x, .slice A k c)], by simp [hq], by rw [shC_append]; exact hp.1, fun j hj => ?_⟩
  by_cases hjn : j < n
  · obtain ⟨A1, k1, c1, h1, h2, h3⟩ := hps j hjn
    obtain ⟨r1, r2⟩ := hrow A1 k1 c1 _ h2 h3
    refine ⟨A1, k1, c1, by rw [List.getElem?_append_left (by omega), gS_append_left (by omega)]; exact h1, ?_, r2⟩
    rw [gS_append_left (by omega)]; exact r1
  · obtain rfl : j = n := by omega
    obtain ⟨r1, r2⟩ := hrow A k c d hl hA
    refine ⟨A, k, c, ?_, ?_, r2⟩
    · rw [List.getElem?_append_right (by omega), hq, Nat.sub_self, ← hm, gS_append_self]; rfl
    · rw [← hm, gS_append_self]; exact r1
theorem OwnS.nil (w : World) (base : Nat) : OwnS w base (.slice none 0 0) 0 [] := ⟨rfl, [], rfl, World.ownsRow_nil _ _ _ _, fun j hj => absurd hj (by omega)⟩

theorem infoSh : (Try.prog.info? 33).map (fun i => (i.zero, i.size, i.bytes)) = some (some (.agg #[.int .i64 0, .slice none 0 0]), 2, 32) := by kernel_rfl

/-- One share appended: it lies in a new block of its own. -/
theorem wpList_appS (w : World) {ops : Array Oper} {rest : List Oper} {o : Oper} {a : Act} {Q : Exit → Act → World → Prop} (hgd : o.guard = none) (s x : Operand)
    (ho : o.op = .call { callee := .builtin .append, args := #[s, x], argTypes := #[26, 26] })
    (base : Nat) (v : Value) (n : Nat) (xs : List Value) (hs : a.eval s = v) (hown : w.ownsRow base 33 2 v n xs)
    (g c : Nat) (te : TypeId) (u u' : Value) (hx : a.eval x = .slice (some ⟨g, 0, none⟩) 1 c) (hblk : Blk w g te #[u, u']) (hu : u.oneCell' = true) (hu' : u'.oneCell' = true) (hb : (n + 1) * 32 ≤ 140737488355328) (hbase : base ≤ w.heap.size)
    (h : ∀ v' w', AppS base 33 v n (xs ++ [u, u']) v' w w' → wpList Try.prog ops Q rest (a.put o.dst v') w') : wpList Try.prog ops Q (o :: rest) a w := by
  obtain ⟨i, hi, hz, hsz, hby⟩ := info_parts infoSh
  refine wpList_plain hgd fun _ hK => ?_
  obtain ⟨v', w', hrun, h2, h3, _, h5⟩ := run_append_own_at (P := Try.prog) w base 26 o.type 33 i _ 2 32 Try.underlying26 hi hz hsz hby rfl (by omega) v n xs hown ⟨g, 0, none⟩ 1 c [u, u'] rfl (fun j w0 hj => by
    have hjl : j < 2 := by
      rcases Nat.lt_or_ge j 2 with h1 | h1
      · exact h1
      · rw [List.getElem?_eq_none (by simpa using h1)] at hj; cases hj
    have ea : (⟨g, 0, none⟩ : Addr).add j = ⟨g, 0 + j, none⟩ := by
      unfold Addr.add; split
      · rename_i hj0; subst hj0; simp
      · rfl
    rw [ea, Nat.zero_add, hblk.cell]
    simpa using hj) (by simp [hu, hu']) (by simp only [maxLen]; omega) hb hbase
  unfold Oper.wp execOp
  simp only [ho, resolve, invoke, builtin, Sem.run_bind, Sem.run_pure, Result.andThen_ok, List.map_toArray, List.map_cons, List.map_nil, hs, hx, hrun]
  exact hK _ _ (h v' w' ⟨h2, h3, h5⟩)
end Go.Proofs.Ytakedococfklgaa
/- Contracts of slices.Grow of nil, slices.Concat of two, shamir.evaluator. -/
namespace Go.Proofs.Ytakedococfklgaa
open Go.RowKit Gf

/-- A new row without elements. -/
def GrowRet (w : World) (e : Ending) (w' : World) : Prop := ∃ c, e = .returned (.slice (some ⟨w.heap.size, 0, none⟩) 0 c) ∧ w'.ownsRow w.heap.size 22 1 (.slice (some ⟨w.heap.size, 0, none⟩) 0 c) 0 [] ∧ Below w.heap.size w w'

set_option maxRecDepth 100000 in
set_option maxHeartbeats 1000000 in
theorem grow_nil (n : Nat) (w : World) (h0 : 0 < n) (hn : n * 24 ≤ 140737488355328) :
    Calls Try.prog 63 #[.slice none 0 0, .int .i64 (n : Int)] w (GrowRet w) := by
  obtain ⟨i0, hi0, hz0, hs0, hby0⟩ := info_parts infoBytes
  have hrz : ∀ ty, (Builtin.append_ #[23, 3] ty #[.slice none 0 0, .int .i64 (n : Int)]).run Try.prog w =
      .ok (.slice (some ⟨w.heap.size, 0, none⟩) n (grownCap w n 0 22)) (w.drew.alloc (.cells (#[] ++ Builtin.zeroCells #[.slice none 0 0] n ++ Builtin.zeroCells #[.slice none 0 0] (grownCap w n 0 22 - n)) 22)) := fun ty => by
    have h := Lib.run_append_grow_zeros w 23 3 ty 22 i0 _ .i64 .i64 Try.underlying23 Try.underlying3 hi0 hz0 none 0 0 [] (run_firstCells_none w.drew i0.size 0 0 0) n h0 (by omega) (by omega) (by omega) (by rw [hby0]; omega) (by rw [hby0, Nat.zero_add]; exact growslice_fits (by omega) hn)
    rw [Nat.zero_add] at h
    exact h
  obtain ⟨G, hG⟩ : ∃ G, G = grownCap w n 0 22 := ⟨_, rfl⟩
  have hGn : n ≤ grownCap w n 0 22 := grownCap_ge w _ _ _
  have hGx := grownCap_le_maxLen w n 0 22 (by unfold maxLen; omega)
  rw [← hG] at hrz hGn hGx
  have HGX := Lib.hid hGx
  have hG63 : G ≤ 9223372036854775807 := by unfold maxLen at hGx; omega
  clear hG hGx
  have q1 : decide ((n : Int) < 0) = false := by simp
  have q2 : decide ((0 : Int) < (n : Int)) = true := by simp; omega
  have h1 : (0 : Int) < (n : Int) := by omega
  go_enter Try.func63, Try.ntmps63
  go_wp2_with (at_builtin; refine Lib.wpList_append_run _ rfl _ _ _ _ rfl _ _ rfl rfl _ _ (hrz _) ?_)
  go_ret
  refine ⟨G, rfl, ⟨rfl, .inr ⟨w.heap.size, G, _, rfl, Nat.le_refl _, heap_alloc_new w.drew _, by omega, HGX.out, by simp [Builtin.zeroCells]; omega, by simp⟩⟩, ?_⟩
  exact below_ofDrew ((Below.refl _ w.drew).alloc (Nat.le_refl _) _)

/-- A new row of byte slices that read as m. -/
def CatRet (m : List (List UInt8)) (w : World) (e : Ending) (w' : World) : Prop := ∃ A c, e = .returned (.slice A m.length c) ∧ MS w' A m.length c m ∧ Below w.heap.size w w'
theorem gR_append {a b : List (List UInt8)} (k : Nat) : gR (a ++ b) k = if k < a.length then gR a k else gR b (k - a.length) := by
  by_cases h : k < a.length
  · rw [if_pos h, gR_append_left h]
  · rw [if_neg h]; simp [gR, List.getD, List.getElem?_append_right (Nat.le_of_not_lt h)]

set_option maxRecDepth 100000 in
set_option maxHeartbeats 1000000 in
theorem concat_any (g : Nat) (A1 A2 : Option Addr) (n1 c1 n2 c2 : Nat) (m1 m2 : List (List UInt8)) (w : World) (hg : Blk w g 23 #[.slice A1 n1 c1, .slice A2 n2 c2]) (h1 : MS w A1 n1 c1 m1) (h2 : MS w A2 n2 c2 m2) (h0 : 0 < n1) (hn1 : n1 ≤ 100000) (hn2 : n2 ≤ 100000) :
    Calls Try.prog 43 #[.slice (some ⟨g, 0, none⟩) 2 2] w (CatRet (m1 ++ m2) w) := by
  have d1 : w.cell? ⟨g, 0, none⟩ = some (.slice A1 n1 c1) := by rw [hg.cell]; rfl
  have d2 : w.cell? ⟨g, 1, none⟩ = some (.slice A2 n2 c2) := by rw [hg.cell]; rfl
  obtain ⟨p1, l1, k1, r1⟩ := h1.list
  obtain ⟨p2, l2, k2, r2⟩ := h2.list
  have HP1 := Lib.hid (⟨l1, k1, r1⟩ : p1.length = n1 ∧ _ ∧ _)
  have HP2 := Lib.hid (⟨l2, k2, r2⟩ : p2.length = n2 ∧ _ ∧ _)
  have HG := Lib.hid hg
  have HM : Hid (m1.length = n1 ∧ m2.length = n2) := Lib.hid ⟨h1.1, h2.1⟩
  clear l1 k1 r1 l2 k2 r2 hg h1 h2
  go_enter Try.func43, Try.ntmps43
  go_wp2_with fail
  go_loop [3, 11] (fun s i => (s = .int .i64 0 ∧ i = .int .i64 0) ∨ (s = .int .i64 (n1 : Int) ∧ i = .int .i64 1) ∨ (s = .int .i64 ((n1 : Int) + (n2 : Int)) ∧ i = .int .i64 2)) (fun _ i => 2 - (intOf i).toNat)
  case atStart => exact .inl ⟨rfl, rfl⟩
  case round =>
    rcases hrel with ⟨rfl, rfl⟩ | ⟨rfl, rfl⟩ | ⟨rfl, rfl⟩
    · have q : decide ((n1 : Int) < 0) = false := by simp
      go_wp2_with fail
      go_round
      case rel => exact .inr (.inl ⟨rfl, rfl⟩)
      case measure => simp [intOf]
    · have q : decide ((n1 : Int) + (n2 : Int) < 0) = false := by simp; omega
      go_wp2_with fail
      go_round
      case rel => exact .inr (.inr ⟨rfl, rfl⟩)
      case measure => simp [intOf]
    · have hgr := grow_nil (n1 + n2) w (by omega) (by omega)
      rw [Int.natCast_add] at hgr
      have HGR := Lib.hid hgr
      clear hgr
      go_wp2_with fail
      refine HGR.out.mono ?_
      rintro e w1 ⟨c3, rfl, ho1, hb1⟩
      have HO1 := Lib.hid ho1
      have HB1 := Lib.hid hb1
      clear ho1 hb1 HGR d1 d2
      go_wp2_with fail
      go_loopw [6, 27] (fun v i wr => (i = .int .i64 0 ∧ Hid (wr.ownsRow w.heap.size 22 1 v 0 []) ∧ Hid (Below w.heap.size w wr)) ∨ (i = .int .i64 1 ∧ Hid (wr.ownsRow w.heap.size 22 1 v n1 p1) ∧ Hid (Below w.heap.size w wr)) ∨ (i = .int .i64 2 ∧ Hid (wr.ownsRow w.heap.size 22 1 v (n1 + n2) (p1 ++ p2)) ∧ Hid (Below w.heap.size w wr))) (fun _ i _ => 2 - (intOf i).toNat)
      case atStart => exact .inl ⟨rfl, HO1, HB1⟩
      case round =>
        rcases hrel with ⟨rfl, ho, hb⟩ | ⟨rfl, ho, hb⟩ | ⟨rfl, ho, hb⟩
        · have hg := HG.out.kept hb.out
          have d1 : wr.cell? ⟨g, 0, none⟩ = some (.slice A1 n1 c1) := by rw [hg.cell]; rfl
          clear hg
          have HC : Hid (Cells wr A1 n1 (fun k => p1.getD k undef)) := Lib.hid (HP1.out.2.1.kept hb.out)
          have H1 : Hid (∀ u ∈ p1, u.oneCell' = true) := Lib.hid (fun u hu => by
            obtain ⟨j, hj, rfl⟩ := List.getElem_of_mem hu
            obtain ⟨A', n', c', e, _⟩ := HP1.out.2.2 j (by rw [← HP1.out.1]; exact hj)
            rw [List.getElem?_eq_getElem hj] at e
            rw [Option.some.inj e]; rfl)
          go_wp2_with (first
            | (at_builtin; refine wpList_app _ rfl (.tmp 31) (.tmp 32) 23 rfl w.heap.size 22 (.slice none 0 0) 24 Try.underlying23 infoBytes rfl u6 0 [] rfl ho.out A1 n1 c1 p1 rfl HP1.out.1 HC.out H1.out (by omega) (by omega) hb.out.size ?_; intro v4 w6 hp4))
          have HR : Hid (w6.ownsRow w.heap.size 22 1 v4 n1 p1 ∧ Below w.heap.size w w6) := by
            refine Lib.hid ⟨?_, hb.out.grown hp4.2.1 hb.out.size (fun b hb' => own_base ho.out b hb')⟩
            have := hp4.1
            rw [Nat.zero_add, List.nil_append] at this
            exact this
          clear hp4
          go_roundw
          case rel => exact .inr (.inl ⟨rfl, Lib.hid HR.out.1, Lib.hid HR.out.2⟩)
          case measure => simp [intOf]
        · have hg := HG.out.kept hb.out
          have d2 : wr.cell? ⟨g, 1, none⟩ = some (.slice A2 n2 c2) := by rw [hg.cell]; rfl
          clear hg
          have HC : Hid (Cells wr A2 n2 (fun k => p2.getD k undef)) := Lib.hid (HP2.out.2.1.kept hb.out)
          have H1 : Hid (∀ u ∈ p2, u.oneCell' = true) := Lib.hid (fun u hu => by
            obtain ⟨j, hj, rfl⟩ := List.getElem_of_mem hu
            obtain ⟨A', n', c', e, _⟩ := HP2.out.2.2 j (by rw [← HP2.out.1]; exact hj)
            rw [List.getElem?_eq_getElem hj] at e
            rw [Option.some.inj e]; rfl)
          go_wp2_with (first
            | (at_builtin; refine wpList_app _ rfl (.tmp 31) (.tmp 32) 23 rfl w.heap.size 22 (.slice none 0 0) 24 Try.underlying23 infoBytes rfl u6 n1 p1 rfl ho.out A2 n2 c2 p2 rfl HP2.out.1 HC.out H1.out (by omega) (by omega) hb.out.size ?_; intro v4 w6 hp4))
          have HR : Hid (w6.ownsRow w.heap.size 22 1 v4 (n1 + n2) (p1 ++ p2) ∧ Below w.heap.size w w6) := by
            exact Lib.hid ⟨hp4.1, hb.out.grown hp4.2.1 hb.out.size (fun b hb' => own_base ho.out b hb')⟩
          clear hp4
          go_roundw
          case rel => exact .inr (.inr ⟨rfl, Lib.hid HR.out.1, Lib.hid HR.out.2⟩)
          case measure => simp [intOf]
        · have HR : Hid (CatRet (m1 ++ m2) w (.returned u6) wr) := Lib.hid (by
            obtain ⟨hm1, hm2⟩ := HM.out
            have hml : (m1 ++ m2).length = n1 + n2 := by rw [List.length_append, hm1, hm2]
            rcases ho.out.2 with ⟨_, h9⟩ | ⟨g1, cap, cur, rfl, hbg, hh, hnc, _, hsz, htk⟩
            · omega
            · refine ⟨_, cap, by rw [hml], ?_, hb.out⟩
              rw [hml]
              refine ⟨hml, hnc, by unfold lim; omega, fun k hk => ?_⟩
              by_cases hk1 : k < n1
              · obtain ⟨A', n', c', e, hbs⟩ := HP1.out.2.2 k hk1
                refine ⟨g1, 0, A', n', c', rfl, ?_, ?_⟩
                · rw [Nat.zero_add, ho.out.cellAt k (by omega), List.getElem?_append_left (by rw [HP1.out.1]; exact hk1)]; exact e
                · rw [gR_append, if_pos (by rw [hm1]; exact hk1)]; exact hbs.kept hb.out
              · obtain ⟨A', n', c', e, hbs⟩ := HP2.out.2.2 (k - n1) (by omega)
                refine ⟨g1, 0, A', n', c', rfl, ?_, ?_⟩
                · rw [Nat.zero_add, ho.out.cellAt k (by omega), List.getElem?_append_right (by rw [HP1.out.1]; omega), HP1.out.1]; exact e
                · rw [gR_append, if_neg (by rw [hm1]; exact hk1), hm1]; exact hbs.kept hb.out)
          go_wp2_with fail
          go_ret
          exact HR.out

set_option maxHeartbeats 400000 in
theorem evaluator_any (A : Option Addr) (n c : Nat) (w : World) :
    Calls Try.prog 42 #[.slice A n c] w fun e w' => e = .returned (.func (.func 61) #[] #[.pointer (some ⟨w.heap.size, 0, none⟩)]) ∧ w' = w.alloc (.cells #[.slice A n c] 23) := by
  have hmf : ∀ (fn : Fn) (first cap : Array Value) (w : World), (Instr.makeFunc fn first cap).run Try.prog w = .ok (.func fn first cap) w := fun _ _ _ _ => rfl
  go_enter Try.func42, Try.ntmps42
  go_wp2
  go_ret
  exact ⟨rfl, rfl⟩
end Go.Proofs.Ytakedococfklgaa
/- Contract of shamir.Split. -/
namespace Go.Proofs.Ytakedococfklgaa
open Go.RowKit Gf

theorem make_shares (n : Nat) (h : n * 32 ≤ 140737488355328) (w : World) :
    (Instr.makeSlice 26 (.int .i64 0) (.int .i64 (n : Int))).run Try.prog w = .ok (.slice (some ⟨w.heap.size, 0, none⟩) 0 n) (w.alloc (.cells (madeCells #[.int .i64 0, .slice none 0 0] (n * 2)) 33)) := by
  obtain ⟨i, hi, hz, hs, hb⟩ := info_parts infoSh
  have hr := run_make (P := Try.prog) w 26 33 i _ Try.underlying26 hi hz .i64 .i64 0 n (by omega) (by omega) (by rw [hb]; omega) (by omega)
  rw [hr, hs]
  rfl
theorem OwnS.mono {w : World} {base b : Nat} {v : Value} {n : Nat} {l : List (Int × List UInt8)} (h : OwnS w base v n l) (hb : b ≤ base) : OwnS w b v n l := by
  obtain ⟨h1, q, h2, ⟨h3, h4⟩, h5⟩ := h
  refine ⟨h1, q, h2, ⟨h3, ?_⟩, h5⟩
  rcases h4 with h4 | ⟨g, cap, cur, e, hg, h6⟩
  · exact .inl h4
  · exact .inr ⟨g, cap, cur, e, Nat.le_trans hb hg, h6⟩
/-- The list of secret and coefficients. -/
def splM (secret : List UInt8) (co : List (List UInt8)) : List (List UInt8) := [secret] ++ co
/-- The shares. -/
def splS (secret : List UInt8) (co : List (List UInt8)) (z : List Int) : List (Int × List UInt8) := z.map fun x => (x, evl (splM secret co) (UInt8.ofNat x.toNat))
theorem splS_take (secret : List UInt8) (co : List (List UInt8)) (z : List Int) (k : Nat) (h : k < z.length) : splS secret co (z.take (k + 1)) = splS secret co (z.take k) ++ [(gI z k, evl (splM secret co) (UInt8.ofNat (gI z k).toNat))] := by
  rw [List.take_succ_eq_append_getElem h, gI_eq h, splS, List.map_append]; rfl
/-- The error of Split. -/
def splE (secret : List UInt8) (co : List (List UInt8)) (z : List Int) : Int := if ltB co secret.length && xsB z then (if 1024 < secret.length then 2 else 0) else 1
def splL (secret : List UInt8) (co : List (List UInt8)) (z : List Int) : List (Int × List UInt8) := if splE secret co z = 0 then splS secret co z else []
def SplRet (secret : List UInt8) (co : List (List UInt8)) (z : List Int) (w : World) (e : Ending) (w' : World) : Prop :=
  ∃ v, e = .returned (.tuple #[v, .int .i64 (splE secret co z)]) ∧ OwnS w' w.heap.size v (splL secret co z).length (splL secret co z) ∧ Below w.heap.size w w'

set_option maxRecDepth 100000 in
set_option maxHeartbeats 1000000 in
theorem split_any (As Ac Az : Option Addr) (ns cs nc cc nz cz : Nat) (secret : List UInt8) (co : List (List UInt8)) (z : List Int) (w : World) (hs : BS w As ns cs secret) (hc : MS w Ac nc cc co) (hz : IS w Az nz cz z) :
    Calls Try.prog 13 #[.slice As ns cs, .slice Ac nc cc, .slice Az nz cz] w (SplRet secret co z w) := by
  have HLS := Lib.hid hs.1
  have HLC := Lib.hid hc.1
  have HLZ := Lib.hid hz.1
  have hns := hs.len_le
  have hnc := hc.len_le
  have hnz := hz.len_le
  have HS := Lib.hid hs
  have HC := Lib.hid hc
  have HZ := Lib.hid hz
  clear hs hc hz
  have HV := Lib.hid (validLists_any Ac nc cc co (ns : Int) w HC.out)
  cases hl : ltB co (ns : Int) with
  | false =>
    have HE : Hid (splE secret co z = 1) := Lib.hid (by unfold splE; rw [HLS.out, hl]; rfl)
    have HL : Hid (splL secret co z = []) := Lib.hid (by unfold splL; rw [HE.out]; rfl)
    go_enter Try.func13, Try.ntmps13
    go_wp2_with fail
    refine HV.out.mono ?_
    rintro e w' ⟨rfl, rfl⟩
    rw [hl]
    go_wp2_with fail
    go_ret2
    exact ⟨_, by rw [HE.out]; rfl, by rw [HL.out]; exact OwnS.nil _ _, Below.refl _ _⟩
  | true =>
    cases hx : xsB z with
    | false =>
      have HE : Hid (splE secret co z = 1) := Lib.hid (by unfold splE; rw [HLS.out, hl, hx]; rfl)
      have HL : Hid (splL secret co z = []) := Lib.hid (by unfold splL; rw [HE.out]; rfl)
      go_enter Try.func13, Try.ntmps13
      go_wp2_with fail
      refine HV.out.mono ?_
      rintro e w' ⟨rfl, rfl⟩
      rw [hl]
      go_wp2_with fail
      refine (validXs_any _ _ _ _ _ HZ.out).mono ?_
      rintro e w1 ⟨rfl, hb1⟩
      rw [hx]
      have HB1 := Lib.hid hb1
      clear hb1
      go_wp2_with fail
      go_ret2
      exact ⟨_, by rw [HE.out]; rfl, by rw [HL.out]; exact OwnS.nil _ _, HB1.out⟩
    | true =>
      obtain ⟨x1, x2, x3⟩ := xsB_spec hx
      rw [HLZ.out] at x1 x2
      have X2 := Lib.hid x2
      have HCL : Hid (∀ i, i < nc → (gR co i).length = ns) := Lib.hid (fun i hi => by
        unfold ltB at hl
        rw [Bool.and_eq_true, List.all_eq_true] at hl
        have := hl.1 i (List.mem_range.2 (by rw [HLC.out]; exact hi))
        simp only [decide_eq_true_eq] at this
        omega)
      have hnc16 : nc < 16 := by
        unfold ltB at hl
        rw [Bool.and_eq_true] at hl
        have := hl.2
        rw [HLC.out] at this
        simpa using this
      clear x2 x3
      by_cases hbig : 1024 < ns
      · have HE : Hid (splE secret co z = 2) := Lib.hid (by unfold splE; rw [HLS.out, hl, hx]; simp; omega)
        have HL : Hid (splL secret co z = []) := Lib.hid (by unfold splL; rw [HE.out]; rfl)
        have q : decide ((1024 : Int) < (ns : Int)) = true := by simp; omega
        go_enter Try.func13, Try.ntmps13
        go_wp2_with fail
        refine HV.out.mono ?_
        rintro e w' ⟨rfl, rfl⟩
        rw [hl]
        go_wp2_with fail
        refine (validXs_any _ _ _ _ _ HZ.out).mono ?_
        rintro e w1 ⟨rfl, hb1⟩
        rw [hx]
        have HB1 := Lib.hid hb1
        clear hb1
        go_wp2_with fail
        go_ret2
        exact ⟨_, by rw [HE.out]; rfl, by rw [HL.out]; exact OwnS.nil _ _, HB1.out⟩
      · have HE : Hid (splE secret co z = 0) := Lib.hid (by unfold splE; rw [HLS.out, hl, hx]; simp; omega)
        have HL : Hid (splL secret co z = splS secret co z) := Lib.hid (by unfold splL; rw [HE.out]; rfl)
        have q : decide ((1024 : Int) < (ns : Int)) = false := by simp; omega
        go_enter Try.func13, Try.ntmps13
        go_wp2_with fail
        refine HV.out.mono ?_
        rintro e w' ⟨rfl, rfl⟩
        rw [hl]
        go_wp2_with fail
        refine (validXs_any _ _ _ _ _ HZ.out).mono ?_
        rintro e w1 ⟨rfl, hb1⟩
        rw [hx]
        have HB1 := Lib.hid hb1
        have HS1 := Lib.hid (HS.out.kept hb1)
        have HC1 := Lib.hid (HC.out.kept hb1)
        have HZ1 := Lib.hid (HZ.out.kept hb1)
        clear hb1 HV HS HC HZ hl hx
        go_wp2_with fail
        obtain ⟨W2, hW2⟩ : ∃ W2, W2 = (w1.alloc (.cells #[.slice As ns cs] 22)).alloc (.cells #[.slice (some ⟨w1.heap.size, 0, none⟩) 1 1, .slice Ac nc cc] 23) := ⟨_, rfl⟩
        have hb2 : Below w1.heap.size w1 W2 := by rw [hW2]; exact ((Below.refl _ _).alloc (Nat.le_refl _) _).alloc (by simp) _
        have k2 : Blk W2 w1.heap.size 22 #[.slice As ns cs] := by rw [hW2]; exact (Blk.new w1 _ _).alloc _
        have k3 : Blk W2 (w1.heap.size + 1) 23 #[.slice (some ⟨w1.heap.size, 0, none⟩) 1 1, .slice Ac nc cc] := by
          rw [hW2]
          have := Blk.new (w1.alloc (.cells #[.slice As ns cs] 22)) 23 #[.slice (some ⟨w1.heap.size, 0, none⟩) 1 1, .slice Ac nc cc]
          rw [World.size_alloc] at this
          exact this
        have hm2 : MS W2 (some ⟨w1.heap.size, 0, none⟩) 1 1 [secret] := ⟨rfl, Nat.le_refl _, by decide, fun k hk => by
          obtain rfl : k = 0 := by omega
          exact ⟨_, 0, As, ns, cs, rfl, by rw [k2.cell]; rfl, HS1.out.kept hb2⟩⟩
        rw [← hW2]
        clear hW2
        refine (concat_any (w1.heap.size + 1) _ Ac 1 1 nc cc [secret] co W2 k3 hm2 (HC1.out.kept hb2) (by omega) (by omega) (by omega)).mono ?_
        rintro e w3 ⟨A3, c3, rfl, h31, h32⟩
        have hlen : (1 : Nat) + nc = ([secret] ++ co).length := by rw [List.length_append, HLC.out]; rfl
        obtain ⟨n3, hn3⟩ : ∃ n3, n3 = ([secret] ++ co).length := ⟨_, rfl⟩
        rw [← hn3] at h31 hlen
        rw [← hn3]
        have H31 := Lib.hid h31
        have HB3 := Lib.hid (below_then HB1.out (below_then hb2 h32))
        have HZ3 := Lib.hid ((HZ1.out.kept hb2).kept h32)
        have HN3 := Lib.hid hlen
        have hn30 : 0 < n3 := by omega
        clear h31 h32 hb2 k2 k3 hm2 hn3 hlen HS1 HC1 HZ1
        go_wp2_with fail
        refine (evaluator_any A3 n3 c3 w3).mono ?_
        rintro e w' ⟨rfl, rfl⟩
        have hb4 : Below w3.heap.size w3 (w3.alloc (.cells #[.slice A3 n3 c3] 23)) := (Below.refl _ _).alloc (Nat.le_refl _) _
        have k4 := Blk.new w3 23 #[.slice A3 n3 c3]
        obtain ⟨W4, hW4⟩ : ∃ W4, W4 = w3.alloc (.cells #[.slice A3 n3 c3] 23) := ⟨_, rfl⟩
        rw [← hW4] at hb4 k4 ⊢
        have H41 := Lib.hid (H31.out.kept hb4)
        have HB4 := Lib.hid (below_then HB3.out hb4)
        have HZ4 := Lib.hid (HZ3.out.kept hb4)
        have HK4 := Lib.hid k4
        have hmk := make_shares nz (by omega)
        clear hb4 k4 hW4 H31 HB3 HZ3
        go_wp2_with fail
        clear hmk
        obtain ⟨W5, hW5⟩ : ∃ W5, W5 = W4.alloc (.cells (madeCells #[.int .i64 0, .slice none 0 0] (nz * 2)) 33) := ⟨_, rfl⟩
        have hb5 : Below W4.heap.size W4 W5 := by rw [hW5]; exact (Below.refl _ _).alloc (Nat.le_refl _) _
        have ho5 : OwnS W5 W4.heap.size (.slice (some ⟨W4.heap.size, 0, none⟩) 0 nz) 0 [] := ⟨rfl, [], rfl, ⟨rfl, .inr ⟨W4.heap.size, nz, _, rfl, Nat.le_refl _, by rw [hW5]; exact heap_alloc_new W4 _, by omega, by unfold maxLen; omega, size_madeCells _ _, rfl⟩⟩, fun j hj => absurd hj (by omega)⟩
        rw [← hW5]
        have HB5 := Lib.hid hb5
        have HO5 := Lib.hid ho5
        clear hb5 ho5 hW5
        go_loopw [9, 36] (fun v i wr => ∃ k : Nat, k ≤ nz ∧ i = .int .i64 (k : Int) ∧ Hid (OwnS wr W4.heap.size v k (splS secret co (z.take k))) ∧ Hid (Below W4.heap.size W4 wr)) (fun _ i _ => nz - (intOf i).toNat)
        case atStart => exact ⟨0, by omega, rfl, HO5, HB5⟩
        case round =>
          obtain ⟨k, hk, rfl, ho, hb⟩ := hrel
          by_cases hlt : k < nz
          · obtain ⟨gz, oz, rfl, hcz⟩ := HZ4.out.at_ hb.out hlt
            obtain ⟨x, hx⟩ : ∃ x, x = UInt8.ofNat (gI z k).toNat := ⟨_, rfl⟩
            have HXV : Hid (gI z k = bv x) := Lib.hid (by rw [hx]; exact (bv_ofNat _ (by have := X2.out k hlt; omega) (by have := X2.out k hlt; omega)).symm)
            rw [HXV.out] at hcz
            have HXX := Lib.hid hx
            clear hx
            go_wp2_with fail
            refine (eval1_any w3.heap.size A3 n3 c3 ns _ x wr (by rw [(HK4.out.kept hb.out).cell]; rfl) (H41.out.kept hb.out) hn30 (fun j hj => by
              rw [gR_append]
              split
              · rename_i h9
                obtain rfl : j = 0 := by simp at h9; omega
                exact HLS.out
              · rename_i h9
                have h10 : ([secret] : List (List UInt8)).length = 1 := rfl
                exact HCL.out _ (by have := HN3.out; omega))).mono ?_
            rintro e w6 ⟨v6, rfl, A6, n6, c6, rfl, h61, h62, h63⟩
            have hb7 : Below w6.heap.size w6 (w6.alloc (.cells #[.int .i64 (bv x), .slice A6 n6 c6] 33)) := (Below.refl _ _).alloc (Nat.le_refl _) _
            have hb67 := below_then h63 hb7
            obtain ⟨hm7, q, hq, hown7, hps7⟩ := ho.out.kept hb67
            have HOB := Lib.hid (ho.out.base)
            have HW7 := Lib.hid hown7
            have HPS7 := Lib.hid hps7
            have H61 := Lib.hid (h61.kept hb7)
            have H62 := Lib.hid h62
            have HB7 := Lib.hid (below_then hb.out hb67)
            have HM7 := Lib.hid hm7
            have HQ7 := Lib.hid hq
            clear h61 h62 h63 hb7 hb67 hown7 hps7 hm7 hq ho hb
            go_wp2_with (first
              | (at_builtin; refine wpList_appS _ rfl (.tmp 40) (.tmp 46) rfl W4.heap.size u9 k (shC q) rfl HW7.out w6.heap.size 1 33 (.int .i64 (bv x)) (.slice A6 n6 c6) rfl (Blk.new w6 _ _) rfl rfl (by omega) HB7.out.size ?_; intro v8 w8 hp8))
            have hfar : 0 < n6 → AtB A6 (fun b => u9.ownBlock ≠ some b) := fun _ a e e' => by
              have h1 := H62.out a e
              have h2 := (HOB.out a.block e').2
              omega
            have HO8 : Hid (OwnS w8 W4.heap.size v8 (k + 1) (splS secret co (z.take (k + 1)))) := Lib.hid (by
              rw [splS_take secret co z k (by rw [HLZ.out]; exact hlt)]
              have := OwnS.push HM7.out HQ7.out HPS7.out H61.out hfar hp8
              rw [← HXX.out, HXV.out]
              exact this)
            have HB8 : Hid (Below W4.heap.size W4 w8) := Lib.hid (HB7.out.grown hp8.2.1 HB7.out.size (fun b hb' => (HOB.out b hb').1))
            clear hp8 hfar
            go_roundw
            case rel => exact ⟨k + 1, by omega, by go_num, HO8, HB8⟩
            case measure => simp [intOf]; omega
          · obtain rfl : k = nz := by omega
            have HF : Hid (OwnS wr w.heap.size u9 (splL secret co z).length (splL secret co z)) := Lib.hid (by
              have h1 := ho.out
              rw [List.take_of_length_le (by rw [HLZ.out]; exact Nat.le_refl _)] at h1
              rw [HL.out, h1.1]
              exact h1.mono HB4.out.size)
            have HBF := Lib.hid (below_then HB4.out hb.out)
            go_wp2_with fail
            go_ret2
            exact ⟨_, by rw [HE.out]; rfl, HF.out, HBF.out⟩
end Go.Proofs.Ytakedococfklgaa
