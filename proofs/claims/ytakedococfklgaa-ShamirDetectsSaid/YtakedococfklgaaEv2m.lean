/- The evaluator's closure once more: its values lie in a block of their own. -/
import Derived.Test.YtakedococfklgaaB3
namespace Go.Proofs.Ytakedococfklgaa
open Go.RowKit Go.Shelf Gf
attribute [local go_sem] Oper.semAt_some

/-- The box of the values, these in a block of their own. -/
def VBlk (W : World) (lo g L : Nat) (l : List UInt8) : Prop := ∃ g', l.length = L ∧ Blk W g 22 #[.slice (some ⟨g', 0, none⟩) L L] ∧ Blk W g' 5 (row l) ∧ lo ≤ g' ∧ g' ≠ g
theorem VBlk.grown {W W' : World} {row : Option Nat} {lo g L : Nat} {l : List UInt8} (h : VBlk W lo g L l) (hg : W.grownBy W' row) (hr : ∀ r, row = some r → ∃ q : Obj, W.heap[r]? = some q ∧ q.isCells = false) : VBlk W' lo g L l := by
  obtain ⟨g', h0, h1, h2, h3⟩ := h
  exact ⟨g', h0, grown_blk' hg hr h1, grown_blk' hg hr h2, h3⟩

set_option maxRecDepth 100000 in
set_option maxHeartbeats 2000000 in
theorem eval2_any (gB' : Nat) (A : Option Addr) (n cap L : Nat) (m : List (List UInt8)) (x : UInt8) (w : World) (hbx : w.cell? ⟨gB', 0, none⟩ = some (.slice A n cap)) (h : MS w A n cap m) (h0 : 0 < n) (hL : ∀ k, k < n → (gR m k).length = L) :
    Calls Try.prog 61 #[.int .i64 (bv x), .pointer (some ⟨gB', 0, none⟩)] w (Rets (NewB 5 (evl m x)) w) := by
  have hn := h.len_le
  obtain ⟨g, o, A0, n0, c0, rfl, hc0, hr0⟩ := h.at_ (Below.refl _ _) h0
  obtain rfl : n0 = L := by rw [← hr0.1]; exact hL 0 h0
  obtain ⟨ps, hps⟩ : ∃ ps : Nat → Value, ∀ k, k < n → w.cell? ⟨g, o + k, none⟩ = some (ps k) ∧ ∃ A' n' c', ps k = .slice A' n' c' ∧ BS w A' n' c' (gR m k) := by
    refine ⟨fun k => (w.cell? ⟨g, o + k, none⟩).getD undef, fun k hk => ?_⟩
    obtain ⟨g', o', A', n', c', e, h1, h2⟩ := h.2.2.2 k hk
    cases Option.some.inj e
    exact ⟨by simp only [h1, Option.getD_some], A', n', c', by simp only [h1, Option.getD_some], h2⟩
  have hgl : g < w.heap.size := cell_lt hc0
  have hbl : gB' < w.heap.size := cell_lt hbx
  have HE : Hid (hvL m x n0 (down n n) = evl m x) := Lib.hid (by
    have h1 := h.1
    subst h1
    rw [hvL_down x n0 _ (Nat.le_refl _), evl, hL 0 h0])
  have hmk := make_bytes n0 hr0.len_le
  have hn0 := hr0.len_le
  rw [Nat.add_zero] at hc0
  clear hr0
  have hb3 : Below w.heap.size w (((w.alloc (.cells #[.int .i64 (bv x)] 3)).alloc (.cells (row (zeros n0)) 5)).alloc (.cells #[.slice (some ⟨w.heap.size + 1, 0, none⟩) n0 n0] 22)) := (((Below.refl _ _).alloc (Nat.le_refl _) _).alloc (by simp) _).alloc (by simp; omega) _
  have hbx3 := cell_kept hb3 hbx
  have HB3 := Lib.hid hb3
  have HPS := Lib.hid hps
  have HLL := Lib.hid hL
  clear hb3 hps hL
  refine (callsIn_wide (n := 3)).1 ?_
  refine callsIn_of_wp_marks Try.func61 rfl trivial ?_ rfl
  simp only [Try.ntmps61, List.size_toArray, List.length_cons, List.length_nil, Nat.reduceAdd, Nat.reduceSub, Array.replicate_succ, Array.replicate_zero, List.push_toArray, List.append_toArray, List.nil_append, List.cons_append]
  gi_wp2_with (refine ⟨trivial, ?_⟩; gi_at_call 62; refine (back_in Fence.wide _ trivial rfl _ _ _ _).mono ?_; rintro e w' ⟨rfl, rfl⟩)
  clear hmk hbx hbx3 hc0
  obtain ⟨W3, hW3⟩ : ∃ W3, W3 = ((w.alloc (.cells #[.int .i64 (bv x)] 3)).alloc (.cells (row (zeros n0)) 5)).alloc (.cells #[.slice (some ⟨w.heap.size + 1, 0, none⟩) n0 n0] 22) := ⟨_, rfl⟩
  have hx3 : Blk W3 w.heap.size 3 #[.int .i64 (bv x)] := by rw [hW3]; exact ((Blk.new w _ _).alloc _).alloc _
  have hz3 : Blk W3 (w.heap.size + 1) 5 (row (zeros n0)) := by
    rw [hW3]
    have := (Blk.new (w.alloc (.cells #[.int .i64 (bv x)] 3)) 5 (row (zeros n0))).alloc (.cells #[.slice (some ⟨w.heap.size + 1, 0, none⟩) n0 n0] 22)
    rw [World.size_alloc] at this
    exact this
  have hv3 : Blk W3 (w.heap.size + 1 + 1) 22 #[.slice (some ⟨w.heap.size + 1, 0, none⟩) n0 n0] := by
    rw [hW3]
    have := Blk.new ((w.alloc (.cells #[.int .i64 (bv x)] 3)).alloc (.cells (row (zeros n0)) 5)) 22 #[.slice (some ⟨w.heap.size + 1, 0, none⟩) n0 n0]
    rw [World.size_alloc, World.size_alloc] at this
    exact this
  have hs3 : W3.heap.size = w.heap.size + 3 := by rw [hW3]; simp
  rw [← hW3] at HB3 ⊢
  have e3 : w.heap.size + 1 + 1 + 1 = W3.heap.size := by omega
  rw [e3]
  clear hW3
  have hB4 : Below w.heap.size w (W3.alloc (.cells #[.slice (some ⟨g, o, none⟩) n cap] 23)) := HB3.out.alloc HB3.out.size _
  have hx4 := hx3.alloc (.cells #[.slice (some ⟨g, o, none⟩) n cap] 23)
  have hz4 := hz3.alloc (.cells #[.slice (some ⟨g, o, none⟩) n cap] 23)
  have hv4 := hv3.alloc (.cells #[.slice (some ⟨g, o, none⟩) n cap] 23)
  have hl4 := Blk.new W3 23 #[.slice (some ⟨g, o, none⟩) n cap]
  have hbs4 : (W3.alloc (.cells #[.slice (some ⟨g, o, none⟩) n cap] 23)).cell? ⟨W3.heap.size, 0, none⟩ = some (.slice (some ⟨g, o, none⟩) n cap) := by rw [hl4.cell]; rfl
  refine wpIn_rangeFunc_ownF rfl (by omega) (gf := 84) (lb := #[.pointer (some ⟨W3.heap.size, 0, none⟩)]) rfl trivial (enters_of Try.func84 (by kernel_rfl) rfl)
    (back_stops Fence.wide (3 - 1) trivial rfl (by omega) W3.heap.size w.heap.size g o n cap ps (by omega) hgl _ (by simp) (by simp; omega) hbs4 (fun j hj => cell_kept hB4 (HPS.out j hj).1)) BK.trans (BK.put (by simp; omega)) (Below.refl _ _) (fun _ => rfl)
    (fun pre W => (VBlk W w.heap.size (w.heap.size + 1 + 1) n0 (hvL m x n0 pre) ∧ Blk W w.heap.size 3 #[.int .i64 (bv x)] ∧ Blk W W3.heap.size 23 #[.slice (some ⟨g, o, none⟩) n cap]) ∧ Below w.heap.size w W)
    (fun _ _ _ => False)
    (OwnFrom.and (Own.from (fun s X Y row hs hg hr => ⟨hs.1.grown hg hr, grown_blk' hg hr hs.2.1, grown_blk' hg hr hs.2.2⟩) _) (ownFrom_below (Nat.le_refl _) (by simp; omega)))
    (fun _ _ _ _ _ hs _ _ => hs)
    ⟨⟨⟨w.heap.size + 1, zeros_length _, hv4, hz4, by omega, by omega⟩, hx4, hl4⟩, hB4⟩
    (fun y => { tmps := #[.int .i64 (bv x), .pointer (some ⟨gB', 0, none⟩), .pointer (some ⟨w.heap.size, 0, none⟩), .slice none 0 0, .pointer (some ⟨w.heap.size + 1 + 1, 0, none⟩), undef, ps y.1, .slice (some ⟨g, o, none⟩) n cap, .pointer (some ⟨g, o, none⟩), .slice A0 n0 c0, .int .i64 (n0 : Int), .slice (some ⟨w.heap.size + 1, 0, none⟩) n0 n0, .slice (some ⟨g, o, none⟩) n cap, .func (.func 84) #[] #[.pointer (some ⟨W3.heap.size, 0, none⟩)], .int .i64 (y.1 : Int), ps y.1, undef, undef, undef, undef, undef, undef, undef, undef, undef], defers := [] }) ?assign ?body ?done ?stop
  case assign =>
    intro l y W K hK
    simp only [zip2, List.setIfInBounds_toArray, List.set_cons_succ, List.set_cons_zero]
    gi_wp2
    exact hK
  case body =>
    rintro l pre y W ⟨⟨⟨g1, v0, v1, v2, v3, v5⟩, hx, hl⟩, hB⟩ _
    obtain ⟨hp1, A2, n2, c2, hp2, hp3⟩ := HPS.out y.1 y.2
    obtain rfl : n2 = n0 := by rw [← hp3.1]; exact HLL.out y.1 y.2
    have cv : W.cell? ⟨w.heap.size + 1 + 1, 0, none⟩ = some (.slice (some ⟨g1, 0, none⟩) n2 n2) := by rw [v1.cell]; rfl
    have cx : W.cell? ⟨w.heap.size, 0, none⟩ = some (.int .i64 (bv x)) := by rw [hx.cell]; rfl
    have hwr := bv_wrap x
    have H1 := Lib.hid v1
    have H2 : Hid (BS W (some ⟨g1, 0, none⟩) n2 n2 (hvL m x n2 pre)) := Lib.hid (BS.of_blk v2 v0 (by unfold lim; omega))
    have HX := Lib.hid hx
    have HL := Lib.hid hl
    have HB := Lib.hid hB
    have HP3 := Lib.hid (hp3.kept hB)
    rw [hp2]
    clear v0 v1 v2 v3 v5 hx hl hB hp1 hp3 hp2
    gi_wp2_with fail
    refine ⟨trivial, ?_⟩
    refine (CallsIn.inRound l (callsIn_wide.2 (muladd_any A2 _ n2 c2 n2 _ _ x _ HP3.out H2.out))).mono ?_
    rintro e w4 ⟨v4, rfl, g4, n4, rfl, h41, h42, h43, h44⟩
    have H41 := Lib.hid h41
    have H42 := Lib.hid h42
    have H43 := Lib.hid h43
    have H44 := Lib.hid h44
    have c4 : w4.cell? ⟨w.heap.size + 1 + 1, 0, none⟩ = some (.slice (some ⟨g1, 0, none⟩) n2 n2) := by rw [(H1.out.kept h44).cell]; rfl
    have f4 := (H1.out.kept h44).frozen 0
    clear h41 h42 h43 h44
    dsimp only
    gi_wp2_with fail
    obtain rfl : n4 = n2 := by rw [← H41.out, muladd_length _ _ _ (by rw [HP3.out.1, H2.out.1]), H2.out.1]
    have hsz := HB.out.size
    have h4 := H42.out
    have hne4 : g4 ≠ w.heap.size + 1 + 1 := by have := H1.out.lt; omega
    refine ⟨(keeps_below H44.out).trans (KeepsOthers.setCell _ _ _), ⟨(H44.out.mono hsz).setCell (by simp; omega) _, fun v hv => ?_⟩, ⟨⟨g4, ?_, (H1.out.kept H44.out).set_ 0 _, ?_, by omega, hne4⟩, (HX.out.kept H44.out).far (by show w.heap.size ≠ w.heap.size + 1 + 1; omega) _, (HL.out.kept H44.out).far (by simp; omega) _⟩, (below_then HB.out H44.out).setCell (by simp; omega) _⟩
    · rw [World.cell?_setCell_other _ _ _ _ (by simp)]
      exact cell_kept H44.out hv
    · rw [hvL_snoc]; exact H41.out
    · rw [hvL_snoc]; exact H43.out.far hne4 _
  case done =>
    rintro D ys W hD rfl ⟨⟨⟨g1, v0, v1, v2, v3, v5⟩, hx, hl⟩, hB⟩ hK
    have cv : W.cell? ⟨w.heap.size + 1 + 1, 0, none⟩ = some (.slice (some ⟨g1, 0, none⟩) n0 n0) := by rw [v1.cell]; rfl
    gi_wp2
    refine ⟨by simp, .inl ⟨_, _, rfl, run_takeDeferred hK, ?_⟩⟩
    have hr : ∀ r, some D = some r → ∃ q : Obj, W.heap[r]? = some q ∧ q.isCells = false := fun r e => by cases e; exact ⟨_, hK, rfl⟩
    refine ⟨_, results_tmp rfl _ _ _, _, rfl, g1, n0, rfl, by rw [← HE.out]; exact v0, v3, ?_, hB.trans (belowK_b (w := w) (Nat.le_refl _) W D _ _ (by simp at hD; omega) hK rfl rfl)⟩
    rw [← HE.out]
    exact grown_blk' (grownBy_putObj' _ D (.deferred none)) hr v2
  case stop =>
    rintro D c pre W _ _ h _
    exact h.elim
end Go.Proofs.Ytakedococfklgaa
