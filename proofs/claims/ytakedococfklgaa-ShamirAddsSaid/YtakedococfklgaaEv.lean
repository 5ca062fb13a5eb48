/- slices.Backward over [][]byte and shamir.evaluator's function: Horner's rule over lists of bytes. -/
import Derived.RangeFuncNested
import Derived.RangeFuncBound
import Derived.RangeFuncCalls
import Derived.RangeFuncLeaves
import Derived.RangeFuncBox
import Derived.Shelf.Abstract
import Derived.Shelf.RegionOpen
import Derived.OwnWalkIn
import Derived.TacticsInMore
import Derived.LoopNIn
import Derived.LoopIn
import Derived.Test.YtakedococfklgaaSh1
namespace Go.Proofs.Ytakedococfklgaa
open Go.RowKit Go.Shelf Gf

attribute [local go_sem] Oper.semAt_some

/-- n - 1, n - 2, .. : j of them. -/
def down (n : Nat) : Nat → List (Fin n)
  | 0 => []
  | j + 1 => if h : n - 1 - j < n then down n j ++ [⟨n - 1 - j, h⟩] else down n j
theorem down_succ {n j : Nat} (h : j < n) : down n (j + 1) = down n j ++ [⟨n - 1 - j, by omega⟩] := by
  rw [down, dif_pos (by omega)]
theorem down_length {n : Nat} : ∀ j, j ≤ n → (down n j).length = j
  | 0, _ => rfl
  | j + 1, h => by rw [down_succ (by omega), List.length_append, down_length j (by omega)]; rfl

theorem zip2 (t : Array Value) (p q : Tmp) (u v : Value) : ((#[p, q] : Array Tmp).zip #[u, v]).foldl (fun t (p, v) => t.setIfInBounds p v) t = (t.setIfInBounds p u).setIfInBounds q v := by simp [Array.zip]
/-- What a round keeps: what lay below n₀, and one box. -/
def BK (n₀ Bs : Nat) (W W' : World) : Prop := Below n₀ W W' ∧ ∀ v, W.cell? ⟨Bs, 0, none⟩ = some v → W'.cell? ⟨Bs, 0, none⟩ = some v
theorem BK.refl (n₀ Bs : Nat) (W : World) : BK n₀ Bs W W := ⟨Below.refl _ _, fun _ h => h⟩
theorem BK.trans {n₀ Bs : Nat} {A B C : World} (h : BK n₀ Bs A B) (k : BK n₀ Bs B C) : BK n₀ Bs A C := ⟨h.1.trans k.1, fun v hv => k.2 v (h.2 v hv)⟩
theorem BK.put {n₀ Bs : Nat} {w : World} (hn : n₀ ≤ w.heap.size) (W : World) (l : Nat) (o o' : Obj) (hl : w.heap.size ≤ l) (h : W.heap[l]? = some o) (hc : o.isCells = false) (hw : o.isWalk = false) : BK n₀ Bs W (W.putObj l o') :=
  ⟨belowK_b hn W l o o' hl h hc hw, fun v hv => by
    by_cases e : Bs = l
    · subst e
      exfalso
      simp only [World.cell?, h] at hv
      cases o <;> simp_all [Obj.isCells]
    · exact (World.cell?_of_block (World.putObj_heap_other e)).trans hv⟩

set_option maxRecDepth 100000 in
set_option maxHeartbeats 2000000 in
theorem back1_in (F : Fence) (d : Nat) (h7 : F.fn 84) (hro : F.round = none) (hd : 1 ≤ d) (l Bs n₀ b off n cap : Nat) (ps : Nat → Value) (hreach : n ≤ 140737488355328) (hb : b < n₀) (J Jx : List (Fin n) → World → Prop)
    (hY : ∀ pre x W, J pre W → pre.length < n → YieldAt F (d - 1) Try.prog l #[.int .i64 (x.1 : Int), ps x.1] W fun e W' =>
      (e = .returned (.bool true) ∧ J (pre ++ [x]) W' ∧ BK n₀ Bs W W') ∨ (e = .returned (.bool false) ∧ Jx (pre ++ [x]) W'))
    (W : World) (hBs : W.cell? ⟨Bs, 0, none⟩ = some (.slice (some ⟨b, off, none⟩) n cap)) (hc : ∀ j, j < n → W.cell? ⟨b, off + j, none⟩ = some (ps j)) (h0 : J [] W) :
    CallsIn F d Try.prog 84 #[.func (.yield l) #[] #[], .pointer (some ⟨Bs, 0, none⟩)] W fun e W' => (∃ v, e = .returned v) ∧
      ((∃ ys, ys = down n n ∧ J ys W') ∨ (∃ pre, (∃ k, k ≤ n ∧ pre = down n k) ∧ Jx pre W')) := by
  refine callsIn_of_wp Try.func84 rfl h7 ?_ hro
  simp only [Try.ntmps84, List.size_toArray, List.length_cons, List.length_nil, Nat.reduceAdd, Nat.reduceSub, Array.replicate_succ, Array.replicate_zero, List.push_toArray, List.append_toArray, List.nil_append, List.cons_append]
  gi_wp2
  gi_loopw [3] (fun i wr => ∃ (z : Int) (k : Nat), i = .int .i64 z ∧ -1 ≤ z ∧ z < n ∧ Hid (z + 1 + k = n) ∧ Hid (k ≤ n) ∧ Hid (J (down n k) wr) ∧ Hid (BK n₀ Bs W wr))
    (fun i _ => (intOf i + 1).toNat)
  case atStart => exact ⟨(n : Int) - 1, 0, rfl, by omega, by omega, Lib.hid (by omega), Lib.hid (by omega), Lib.hid h0, Lib.hid (BK.refl _ _ _)⟩
  case round =>
    obtain ⟨z, k, rfl, hz1, hz2, hzk, hkn, hJs, hnx⟩ := hrel
    by_cases hz0 : z < 0
    · have q : decide (0 ≤ z) = false := by simp; omega
      have HK : Hid (k = n) := Lib.hid (by have := hzk.out; omega)
      gi_wp2
      go_end0
      refine ⟨⟨_, rfl⟩, .inl ⟨_, rfl, ?_⟩⟩
      have := hJs.out
      rw [HK.out] at this
      exact this
    · obtain ⟨j, rfl⟩ : ∃ j : Nat, z = (j : Int) := ⟨z.toNat, by omega⟩
      have hj : j < n := by omega
      have hj' : (j : Int) < (n : Int) := by omega
      have hbs := hnx.out.2 _ hBs
      have hcx : wr.cell? ⟨b, off + j, none⟩ = some (ps j) := (hnx.out.1.cell (p := ⟨b, off + j, none⟩) hb).trans (hc j hj)
      have hkl : k < n := by have := hzk.out; omega
      have HKJ : Hid (n - 1 - k = j) := Lib.hid (by have := hzk.out; omega)
      have HDS : Hid (down n (k + 1) = down n k ++ [⟨j, hj⟩]) := Lib.hid (by
        rw [down_succ hkl]; congr 2; exact Fin.ext HKJ.out)
      obtain ⟨fn, tmps, assign, body, hy, hR⟩ := hY _ ⟨j, hj⟩ wr hJs.out (by rw [down_length k (by omega)]; exact hkl)
      dsimp only at hy
      have HHR := Lib.hid hR
      clear hR hc hBs hY
      gi_wp2
      refine HHR.out.mono ?_
      rintro e W3 (⟨rfl, hJ3, hk3⟩ | ⟨rfl, hJx3⟩)
      · have H3 : Hid (J (down n (k + 1)) W3) := Lib.hid (by rw [HDS.out]; exact hJ3)
        have HB3 := Lib.hid (hnx.out.trans hk3)
        clear hJ3 hk3
        gi_wp2
        go_roundw
        case rel => exact ⟨(j : Int) - 1, k + 1, rfl, by omega, by omega, Lib.hid (by have := hzk.out; omega), Lib.hid (by omega), H3, HB3⟩
        case measure => simp [intOf]
      · gi_wp2
        refine bodyPost_ret (results_none rfl _ _ _) rfl ?_
        exact ⟨⟨_, rfl⟩, .inr ⟨_, ⟨k + 1, by omega, HDS.out.symm⟩, hJx3⟩⟩

theorem back_stops (F : Fence) (d : Nat) (h7 : F.fn 84) (hro : F.round = none) (hd : 1 ≤ d) (Bs n₀ b off n cap : Nat) (ps : Nat → Value) (hreach : n ≤ 140737488355328) (hb : b < n₀) (w : World) (hBl : Bs < w.heap.size) (hn₀ : n₀ ≤ w.heap.size)
    (hBs : w.cell? ⟨Bs, 0, none⟩ = some (.slice (some ⟨b, off, none⟩) n cap)) (hc : ∀ j, j < n → w.cell? ⟨b, off + j, none⟩ = some (ps j)) :
    SeqStopsK F d Try.prog 84 #[.pointer (some ⟨Bs, 0, none⟩)] (fun x : Fin n => #[Value.int .i64 (x.1 : Int), ps x.1]) (BK n₀ Bs) (fun ys => ys = down n n) (fun _ => True) n w := fun l J Jx W hW _ _ hY h0 => by
  refine (back1_in F d h7 hro hd l Bs n₀ b off n cap ps hreach hb J Jx hY W ((hW.cell (p := ⟨Bs, 0, none⟩) hBl).trans hBs) (fun j hj => (hW.cell (p := ⟨b, off + j, none⟩) (by show b < w.heap.size; omega)).trans (hc j hj)) h0).mono ?_
  rintro e W' ⟨he, ⟨ys, rfl, hj⟩ | ⟨pre, _, hj⟩⟩
  · exact ⟨he, .inl ⟨_, rfl, hj⟩⟩
  · exact ⟨he, .inr ⟨_, trivial, hj⟩⟩

set_option maxHeartbeats 1000000 in
theorem back_in (F : Fence) (d : Nat) (h5 : F.fn 62) (hro : F.round = none) (a : Option Addr) (len cap : Nat) (w : World) :
    CallsIn F d Try.prog 62 #[.slice a len cap] w fun e w' => e = .returned (.func (.func 84) #[] #[.pointer (some ⟨w.heap.size, 0, none⟩)]) ∧ w' = w.alloc (.cells #[.slice a len cap] 23) := by
  refine callsIn_of_wp Try.func62 rfl h5 ?_ hro
  simp only [Try.ntmps62, List.size_toArray, List.length_cons, List.length_nil, Nat.reduceAdd, Nat.reduceSub, Array.replicate_succ, Array.replicate_zero, List.push_toArray, List.append_toArray, List.nil_append, List.cons_append]
  gi_wp2
  go_ret
  exact ⟨rfl, rfl⟩

/-! ### the caller -/
/-- Horner's rule over the rows that have come. -/
def hvL {n : Nat} (m : List (List UInt8)) (x : UInt8) (L : Nat) (pre : List (Fin n)) : List UInt8 := pre.foldl (fun v k => muladd (gR m k.1) v x) (zeros L)
theorem hvL_snoc {n : Nat} (m : List (List UInt8)) (x : UInt8) (L : Nat) (pre : List (Fin n)) (k : Fin n) : hvL m x L (pre ++ [k]) = muladd (gR m k.1) (hvL m x L pre) x := by
  unfold hvL; rw [List.foldl_append]; rfl
theorem hvL_length {n : Nat} {m : List (List UInt8)} {L : Nat} (hm : ∀ k, k < n → (gR m k).length = L) (x : UInt8) (pre : List (Fin n)) : (hvL m x L pre).length = L := by
  unfold hvL
  suffices h : ∀ (v : List UInt8), v.length = L → (pre.foldl (fun v k => muladd (gR m k.1) v x) v).length = L from h _ (zeros_length L)
  induction pre with
  | nil => intro v hv; exact hv
  | cons k ks ih => intro v hv; rw [List.foldl_cons]; exact ih _ (by rw [muladd_length _ _ _ (by rw [hm k.1 k.2, hv]), hv])
/-- Horner's rule from the last row on: j rows. -/
def hor (m : List (List UInt8)) (x : UInt8) (L : Nat) : Nat → List UInt8
  | 0 => zeros L
  | j + 1 => muladd (gR m (m.length - 1 - j)) (hor m x L j) x
theorem hvL_down {m : List (List UInt8)} (x : UInt8) (L : Nat) : ∀ j, j ≤ m.length → hvL m x L (down m.length j) = hor m x L j
  | 0, _ => rfl
  | j + 1, h => by rw [down_succ (by omega), hvL_snoc, hvL_down x L j (by omega)]; rfl
/-- The values of the polynomials of all bytes. -/
def evl (m : List (List UInt8)) (x : UInt8) : List UInt8 := hor m x (gR m 0).length m.length

theorem grown_cell {W W' : World} {row : Option Nat} (hg : W.grownBy W' row) (hr : ∀ r, row = some r → ∃ o : Obj, W.heap[r]? = some o ∧ o.isCells = false) {p : Addr} {v : Value} (h : W.cell? p = some v) : W'.cell? p = some v := by
  refine (World.cell?_of_block (hg.block p.block (cell_lt h) (fun e => ?_))).trans h
  obtain ⟨o, ho, hc⟩ := hr p.block e.symm
  simp only [World.cell?, ho] at h
  cases o <;> simp_all [Obj.isCells]
theorem grown_blk' {W W' : World} {row : Option Nat} (hg : W.grownBy W' row) (hr : ∀ r, row = some r → ∃ o : Obj, W.heap[r]? = some o ∧ o.isCells = false) {g : Nat} {t : TypeId} {cs : Array Value} (h : Blk W g t cs) : Blk W' g t cs := by
  refine (hg.block g h.lt (fun e => ?_)).trans h
  obtain ⟨o, ho, hc⟩ := hr g e.symm
  unfold Blk at h
  rw [h] at ho
  cases ho
  cases hc
theorem keeps_below {W W' : World} (h : Below W.heap.size W W') : KeepsOthers W W' := ⟨h.size, fun k _ ho _ => (h.block k (Array.getElem?_eq_some_iff.1 ho).1).trans ho⟩

/-- The box of the values. -/
def VBox (W : World) (lo g L : Nat) (l : List UInt8) : Prop := ∃ A c, Blk W g 22 #[.slice A L c] ∧ BS W A L c l ∧ AtB A (fun b => lo ≤ b ∧ b ≠ g)
theorem VBox.grown {W W' : World} {row : Option Nat} {lo g L : Nat} {l : List UInt8} (h : VBox W lo g L l) (hg : W.grownBy W' row) (hr : ∀ r, row = some r → ∃ q : Obj, W.heap[r]? = some q ∧ q.isCells = false) : VBox W' lo g L l := by
  obtain ⟨A, c, h1, h2, h3⟩ := h
  exact ⟨A, c, grown_blk' hg hr h1, ⟨h2.1, h2.2.1, h2.2.2.1, fun k hk => let ⟨g, o', e, hc⟩ := h2.2.2.2 k hk; ⟨g, o', e, grown_cell hg hr hc⟩⟩, h3⟩

set_option maxRecDepth 100000 in
set_option maxHeartbeats 2000000 in
theorem eval1_any (gB' : Nat) (A : Option Addr) (n cap L : Nat) (m : List (List UInt8)) (x : UInt8) (w : World) (hbx : w.cell? ⟨gB', 0, none⟩ = some (.slice A n cap)) (h : MS w A n cap m) (h0 : 0 < n) (hL : ∀ k, k < n → (gR m k).length = L) :
    Calls Try.prog 61 #[.int .i64 (bv x), .pointer (some ⟨gB', 0, none⟩)] w (Rets (GvB (evl m x)) w) := by
  have hn := h.len_le
  obtain ⟨g, o, A0, n0, c0, rfl, hc0, hr0⟩ := h.at_ (Below.refl _ _) h0
  obtain rfl : n0 = L := by rw [← hr0.1]; exact hL 0 h0
  obtain ⟨ps, hps⟩ : ∃ ps : Nat → Value, ∀ k, k < n → w.cell? ⟨g, o + k, none⟩ = some (ps k) ∧ ∃ A' n' c', ps k = .slice A' n' c' ∧ BS w A' n' c' (gR m k) := by
    refine ⟨fun k => (w.cell? ⟨g, o + k, none⟩).getD undef, fun k hk => ?_⟩
    obtain ⟨g', o', A', n', c', e, h1, h2⟩ := h.2.2.2 k hk
    cases Option.some.inj e
    exact ⟨by simp only [h1, Option.getD_some], A', n', c', by simp only [h1, Option.getD_some], h2⟩
  have hgl : g < w.heap.size := cell_lt hc0
  have hbl : gB' < w.heap.size := cell_lt hbx
  have HE : Hid (hvL m x n0 (down n n) = evl m x) := Lib.hid (by
    have h1 := h.1
    subst h1
    rw [hvL_down x n0 _ (Nat.le_refl _), evl, hL 0 h0])
  have hmk := make_bytes n0 hr0.len_le
  have hn0 := hr0.len_le
  rw [Nat.add_zero] at hc0
  clear hr0
  have hb3 : Below w.heap.size w (((w.alloc (.cells #[.int .i64 (bv x)] 3)).alloc (.cells (row (zeros n0)) 5)).alloc (.cells #[.slice (some ⟨w.heap.size + 1, 0, none⟩) n0 n0] 22)) := (((Below.refl _ _).alloc (Nat.le_refl _) _).alloc (by simp) _).alloc (by simp; omega) _
  have hbx3 := cell_kept hb3 hbx
  have HB3 := Lib.hid hb3
  have HPS := Lib.hid hps
  have HLL := Lib.hid hL
  clear hb3 hps hL
  refine (callsIn_wide (n := 3)).1 ?_
  refine callsIn_of_wp_marks Try.func61 rfl trivial ?_ rfl
  simp only [Try.ntmps61, List.size_toArray, List.length_cons, List.length_nil, Nat.reduceAdd, Nat.reduceSub, Array.replicate_succ, Array.replicate_zero, List.push_toArray, List.append_toArray, List.nil_append, List.cons_append]
  gi_wp2_with (refine ⟨trivial, ?_⟩; gi_at_call 62; refine (back_in Fence.wide _ trivial rfl _ _ _ _).mono ?_; rintro e w' ⟨rfl, rfl⟩)
  clear hmk hbx hbx3 hc0
  obtain ⟨W3, hW3⟩ : ∃ W3, W3 = ((w.alloc (.cells #[.int .i64 (bv x)] 3)).alloc (.cells (row (zeros n0)) 5)).alloc (.cells #[.slice (some ⟨w.heap.size + 1, 0, none⟩) n0 n0] 22) := ⟨_, rfl⟩
  have hx3 : Blk W3 w.heap.size 3 #[.int .i64 (bv x)] := by rw [hW3]; exact ((Blk.new w _ _).alloc _).alloc _
  have hz3 : Blk W3 (w.heap.size + 1) 5 (row (zeros n0)) := by
    rw [hW3]
    have := (Blk.new (w.alloc (.cells #[.int .i64 (bv x)] 3)) 5 (row (zeros n0))).alloc (.cells #[.slice (some ⟨w.heap.size + 1, 0, none⟩) n0 n0] 22)
    rw [World.size_alloc] at this
    exact this
  have hv3 : Blk W3 (w.heap.size + 1 + 1) 22 #[.slice (some ⟨w.heap.size + 1, 0, none⟩) n0 n0] := by
    rw [hW3]
    have := Blk.new ((w.alloc (.cells #[.int .i64 (bv x)] 3)).alloc (.cells (row (zeros n0)) 5)) 22 #[.slice (some ⟨w.heap.size + 1, 0, none⟩) n0 n0]
    rw [World.size_alloc, World.size_alloc] at this
    exact this
  have hs3 : W3.heap.size = w.heap.size + 3 := by rw [hW3]; simp
  rw [← hW3] at HB3 ⊢
  have e3 : w.heap.size + 1 + 1 + 1 = W3.heap.size := by omega
  rw [e3]
  clear hW3
  have hB4 : Below w.heap.size w (W3.alloc (.cells #[.slice (some ⟨g, o, none⟩) n cap] 23)) := HB3.out.alloc HB3.out.size _
  have hx4 := hx3.alloc (.cells #[.slice (some ⟨g, o, none⟩) n cap] 23)
  have hz4 := hz3.alloc (.cells #[.slice (some ⟨g, o, none⟩) n cap] 23)
  have hv4 := hv3.alloc (.cells #[.slice (some ⟨g, o, none⟩) n cap] 23)
  have hl4 := Blk.new W3 23 #[.slice (some ⟨g, o, none⟩) n cap]
  have hbs4 : (W3.alloc (.cells #[.slice (some ⟨g, o, none⟩) n cap] 23)).cell? ⟨W3.heap.size, 0, none⟩ = some (.slice (some ⟨g, o, none⟩) n cap) := by rw [hl4.cell]; rfl
  refine wpIn_rangeFunc_ownF rfl (by omega) (gf := 84) (lb := #[.pointer (some ⟨W3.heap.size, 0, none⟩)]) rfl trivial (enters_of Try.func84 (by kernel_rfl) rfl)
    (back_stops Fence.wide (3 - 1) trivial rfl (by omega) W3.heap.size w.heap.size g o n cap ps (by omega) hgl _ (by simp) (by simp; omega) hbs4 (fun j hj => cell_kept hB4 (HPS.out j hj).1)) BK.trans (BK.put (by simp; omega)) (Below.refl _ _) (fun _ => rfl)
    (fun pre W => (VBox W w.heap.size (w.heap.size + 1 + 1) n0 (hvL m x n0 pre) ∧ Blk W w.heap.size 3 #[.int .i64 (bv x)] ∧ Blk W W3.heap.size 23 #[.slice (some ⟨g, o, none⟩) n cap]) ∧ Below w.heap.size w W)
    (fun _ _ _ => False)
    (OwnFrom.and (Own.from (fun s X Y row hs hg hr => ⟨hs.1.grown hg hr, grown_blk' hg hr hs.2.1, grown_blk' hg hr hs.2.2⟩) _) (ownFrom_below (Nat.le_refl _) (by simp; omega)))
    (fun _ _ _ _ _ hs _ _ => hs)
    ⟨⟨⟨_, n0, hv4, BS.of_blk hz4 (zeros_length _) (by unfold lim; omega), (fun a e => by cases e; exact ⟨by simp, by simp⟩)⟩, hx4, hl4⟩, hB4⟩
    (fun y => { tmps := #[.int .i64 (bv x), .pointer (some ⟨gB', 0, none⟩), .pointer (some ⟨w.heap.size, 0, none⟩), .slice none 0 0, .pointer (some ⟨w.heap.size + 1 + 1, 0, none⟩), undef, ps y.1, .slice (some ⟨g, o, none⟩) n cap, .pointer (some ⟨g, o, none⟩), .slice A0 n0 c0, .int .i64 (n0 : Int), .slice (some ⟨w.heap.size + 1, 0, none⟩) n0 n0, .slice (some ⟨g, o, none⟩) n cap, .func (.func 84) #[] #[.pointer (some ⟨W3.heap.size, 0, none⟩)], .int .i64 (y.1 : Int), ps y.1, undef, undef, undef, undef, undef, undef, undef, undef, undef], defers := [] }) ?assign ?body ?done ?stop
  case assign =>
    intro l y W K hK
    simp only [zip2, List.setIfInBounds_toArray, List.set_cons_succ, List.set_cons_zero]
    gi_wp2
    exact hK
  case body =>
    rintro l pre y W ⟨⟨⟨A1, c1, v1, v2, v3⟩, hx, hl⟩, hB⟩ _
    obtain ⟨hp1, A2, n2, c2, hp2, hp3⟩ := HPS.out y.1 y.2
    obtain rfl : n2 = n0 := by rw [← hp3.1]; exact HLL.out y.1 y.2
    have cv : W.cell? ⟨w.heap.size + 1 + 1, 0, none⟩ = some (.slice A1 n2 c1) := by rw [v1.cell]; rfl
    have cx : W.cell? ⟨w.heap.size, 0, none⟩ = some (.int .i64 (bv x)) := by rw [hx.cell]; rfl
    have hwr := bv_wrap x
    have H1 := Lib.hid v1
    have H2 := Lib.hid v2
    have H3 := Lib.hid v3
    have HX := Lib.hid hx
    have HL := Lib.hid hl
    have HB := Lib.hid hB
    have HP3 := Lib.hid (hp3.kept hB)
    rw [hp2]
    clear v1 v2 v3 hx hl hB hp1 hp3 hp2
    gi_wp2_with fail
    refine ⟨trivial, ?_⟩
    refine (CallsIn.inRound l (callsIn_wide.2 (muladd_any A2 A1 n2 c2 c1 _ _ x _ HP3.out H2.out))).mono ?_
    rintro e w4 ⟨v4, rfl, g4, n4, rfl, h41, h42, h43, h44⟩
    have H41 := Lib.hid h41
    have H42 := Lib.hid h42
    have H43 := Lib.hid h43
    have H44 := Lib.hid h44
    have c4 : w4.cell? ⟨w.heap.size + 1 + 1, 0, none⟩ = some (.slice A1 n2 c1) := by rw [(H1.out.kept h44).cell]; rfl
    have f4 := (H1.out.kept h44).frozen 0
    clear h41 h42 h43 h44
    dsimp only
    gi_wp2_with fail
    obtain rfl : n4 = n2 := by rw [← H41.out, muladd_length _ _ _ (by rw [HP3.out.1, H2.out.1]), H2.out.1]
    have hsz := HB.out.size
    have h4 := H42.out
    have hne4 : g4 ≠ w.heap.size + 1 + 1 := by have := H1.out.lt; omega
    refine ⟨(keeps_below H44.out).trans (KeepsOthers.setCell _ _ _), ⟨(H44.out.mono hsz).setCell (by simp; omega) _, fun v hv => ?_⟩, ⟨⟨some ⟨g4, 0, none⟩, n4, (H1.out.kept H44.out).set_ 0 _, ?_, (fun a e => by cases e; exact ⟨by simp; omega, hne4⟩)⟩, (HX.out.kept H44.out).far (by show w.heap.size ≠ w.heap.size + 1 + 1; omega) _, (HL.out.kept H44.out).far (by simp; omega) _⟩, (below_then HB.out H44.out).setCell (by simp; omega) _⟩
    · rw [World.cell?_setCell_other _ _ _ _ (by simp)]
      exact cell_kept H44.out hv
    · rw [hvL_snoc]
      exact (BS.of_blk H43.out H41.out (by unfold lim; omega)).far (fun g o e => by cases Option.some.inj e; exact hne4) _
  case done =>
    rintro D ys W hD rfl ⟨⟨⟨A1, c1, v1, v2, v3⟩, hx, hl⟩, hB⟩ hK
    have cv : W.cell? ⟨w.heap.size + 1 + 1, 0, none⟩ = some (.slice A1 n0 c1) := by rw [v1.cell]; rfl
    gi_wp2
    refine ⟨by simp, .inl ⟨_, _, rfl, run_takeDeferred hK, ?_⟩⟩
    have hr : ∀ r, some D = some r → ∃ q : Obj, W.heap[r]? = some q ∧ q.isCells = false := fun r e => by cases e; exact ⟨_, hK, rfl⟩
    refine ⟨_, results_tmp rfl _ _ _, _, rfl, A1, n0, c1, rfl, ⟨?_, v2.2.1, v2.2.2.1, fun k hk => ?_⟩, (fun a e => (v3 a e).1), hB.trans (belowK_b (w := w) (Nat.le_refl _) W D _ _ (by simp at hD; omega) hK rfl rfl)⟩
    · rw [← HE.out]; exact v2.1
    · obtain ⟨g1, o1, e1, hc1⟩ := v2.2.2.2 k hk
      rw [← HE.out]
      exact ⟨g1, o1, e1, grown_cell (grownBy_putObj' _ D (.deferred none)) hr hc1⟩
  case stop =>
    rintro D c pre W _ _ h _
    exact h.elim
end Go.Proofs.Ytakedococfklgaa
