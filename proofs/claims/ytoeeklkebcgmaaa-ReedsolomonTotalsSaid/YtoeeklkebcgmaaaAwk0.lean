/- What the examples of the chapter come to, and slices that a literal builds. -/
import Derived.Test.YtoeeklkebcgmaaaLoc1
import Derived.Test.YtoeeklkebcgmaaaRf4
namespace Go.Proofs.Ytoeeklkebcgmaaa
open Go.RowKit Gf

theorem ex_row : crw 2 2 = [142, 244] := by decide +kernel
theorem ex_enc : encM 2 3 [[1], [2]] 1 = [[1], [2], [123]] := by decide +kernel
theorem ex_rep : prd [[1], [123]] (fac1 2 [0, 2] 1) 1 = [2] := by decide +kernel
theorem ex_reg2 : Reg 2 [0, 2] := by unfold Reg; decide +kernel
theorem ex_gv2 : gvE 2 3 (ints [0, 2]) [[1], [123]] = 0 := by decide +kernel
theorem ex_gv1 : gvE 1 3 (ints [0, 1, 2]) [[7], [7], [9]] = 0 := by decide +kernel
theorem ex_gv1' : gvE 1 3 (ints [0, 1, 2]) [[7], [8], [9]] = 0 := by decide +kernel
theorem ex_one : oneB [[1], [2]] = true := by decide +kernel
theorem ex_reg1 : ∀ s, s < 2 ^ 3 → popc s = (3 - 1) / 2 → Reg 1 (locR [0, 1, 2] 3 s) := by
  have : (List.range 8).all (fun s => !decide (popc s = 1) || decide ((elimI (ofM 1 ((locR [0, 1, 2] 3 s).take 1)) 1).2 = 1)) = true := by decide +kernel
  intro s hs hp
  have h1 := List.all_eq_true.1 this s (List.mem_range.2 hs)
  have h2 : popc s = 1 := hp
  unfold Reg
  simpa [h2] using h1
theorem ex_loc : ∀ s, s < 2 ^ 3 → locH [0, 1, 2] [[7], [7], [9]] 1 1 3 s = true → s = 4 := by
  have : (List.range 8).all (fun s => !locH [0, 1, 2] [[7], [7], [9]] 1 1 3 s || decide (s = 4)) = true := by decide +kernel
  intro s hs hp
  have h1 := List.all_eq_true.1 this s (List.mem_range.2 hs)
  simpa [hp] using h1
theorem ex_loc4 : locH [0, 1, 2] [[7], [7], [9]] 1 1 3 4 = true := by decide +kernel
theorem ex_difs : ints (difs (selM [[7], [7], [9]] 4 false 3) (facM 1 (locR [0, 1, 2] 3 4) (selN [0, 1, 2] 4 true 3)) (selN [0, 1, 2] 4 true 3) (selM [[7], [7], [9]] 4 true 3) 1 (popc 4)) = [2] := by decide +kernel
theorem ex_locO : locO [0, 1, 2] [[7], [7], [9]] 1 1 3 4 = [2] := by unfold locO; rw [ex_difs]; simp [isort]
theorem ex_loc' : ∀ s, s < 2 ^ 3 → locH [0, 1, 2] [[7], [8], [9]] 1 1 3 s = false := by
  have : (List.range 8).all (fun s => !locH [0, 1, 2] [[7], [8], [9]] 1 1 3 s) = true := by decide +kernel
  intro s hs
  have h1 := List.all_eq_true.1 this s (List.mem_range.2 hs)
  simpa using h1

theorem bs1 {w : World} {g : Nat} {x : Int} {a : UInt8} (hx : bv a = x) (h : Blk w g 5 #[.int .u8 x]) : BS w (some ⟨g, 0, none⟩) 1 1 [a] := by
  subst hx
  exact BS.of_blk (l := [a]) h rfl (by unfold lim; omega)
theorem ms_of {w : World} {g n : Nat} {cs : Array Value} {m : List (List UInt8)} (h : Blk w g 22 cs) (hm : m.length = n) (hn : n ≤ 64) (hr : ∀ k, k < n → ∃ A n' c', cs[k]? = some (.slice A n' c') ∧ BS w A n' c' (gR m k)) : MS w (some ⟨g, 0, none⟩) n n m :=
  ⟨hm, Nat.le_refl _, by unfold lim; omega, fun k hk => by
    obtain ⟨A, n', c', h1, h2⟩ := hr k hk
    exact ⟨g, 0, A, n', c', rfl, by rw [h.cell, Nat.zero_add]; exact h1, h2⟩⟩
theorem ms2 {w : World} {g g1 g2 : Nat} {a b : UInt8} (h : Blk w g 22 #[.slice (some ⟨g1, 0, none⟩) 1 1, .slice (some ⟨g2, 0, none⟩) 1 1]) (h1 : BS w (some ⟨g1, 0, none⟩) 1 1 [a]) (h2 : BS w (some ⟨g2, 0, none⟩) 1 1 [b]) : MS w (some ⟨g, 0, none⟩) 2 2 [[a], [b]] :=
  ms_of h rfl (by omega) fun k hk => match k with
    | 0 => ⟨_, _, _, rfl, h1⟩
    | 1 => ⟨_, _, _, rfl, h2⟩
theorem ms3 {w : World} {g g1 g2 g3 : Nat} {a b c : UInt8} (h : Blk w g 22 #[.slice (some ⟨g1, 0, none⟩) 1 1, .slice (some ⟨g2, 0, none⟩) 1 1, .slice (some ⟨g3, 0, none⟩) 1 1]) (h1 : BS w (some ⟨g1, 0, none⟩) 1 1 [a]) (h2 : BS w (some ⟨g2, 0, none⟩) 1 1 [b]) (h3 : BS w (some ⟨g3, 0, none⟩) 1 1 [c]) : MS w (some ⟨g, 0, none⟩) 3 3 [[a], [b], [c]] :=
  ms_of h rfl (by omega) fun k hk => match k with
    | 0 => ⟨_, _, _, rfl, h1⟩
    | 1 => ⟨_, _, _, rfl, h2⟩
    | 2 => ⟨_, _, _, rfl, h3⟩
theorem size_alloc (w : World) (o : Obj) : (w.alloc o).heap.size = w.heap.size + 1 := World.size_alloc w o
theorem blk_at {w : World} {g : Nat} (hg : w.heap.size = g) (t : TypeId) (cs : Array Value) : Blk (w.alloc (.cells cs t)) g t cs := by subst hg; exact Blk.new w t cs
theorem lit2 {w : World} {g : Nat} (hg : w.heap.size = g) {x y : Int} {a b : UInt8} (hx : bv a = x) (hy : bv b = y) :
    MS (((w.alloc (.cells #[.int .u8 x] 5)).alloc (.cells #[.int .u8 y] 5)).alloc (.cells #[.slice (some ⟨g, 0, none⟩) 1 1, .slice (some ⟨g + 1, 0, none⟩) 1 1] 22)) (some ⟨g + 1 + 1, 0, none⟩) 2 2 [[a], [b]] :=
  ms2 (blk_at (by rw [size_alloc, size_alloc, hg]) _ _) (bs1 hx (((blk_at hg _ _).alloc _).alloc _)) (bs1 hy ((blk_at (by rw [size_alloc, hg]) _ _).alloc _))
theorem lit3 {w : World} {g : Nat} (hg : w.heap.size = g) {x y u : Int} {a b c : UInt8} (hx : bv a = x) (hy : bv b = y) (hu : bv c = u) :
    MS ((((w.alloc (.cells #[.int .u8 x] 5)).alloc (.cells #[.int .u8 y] 5)).alloc (.cells #[.int .u8 u] 5)).alloc (.cells #[.slice (some ⟨g, 0, none⟩) 1 1, .slice (some ⟨g + 1, 0, none⟩) 1 1, .slice (some ⟨g + 1 + 1, 0, none⟩) 1 1] 22)) (some ⟨g + 1 + 1 + 1, 0, none⟩) 3 3 [[a], [b], [c]] :=
  ms3 (blk_at (by rw [size_alloc, size_alloc, size_alloc, hg]) _ _) (bs1 hx ((((blk_at hg _ _).alloc _).alloc _).alloc _)) (bs1 hy (((blk_at (by rw [size_alloc, hg]) _ _).alloc _).alloc _)) (bs1 hu ((blk_at (by rw [size_alloc, size_alloc, hg]) _ _).alloc _))
theorem kb2 (w : World) (o1 o2 o3 : Obj) : Below w.heap.size w (((w.alloc o1).alloc o2).alloc o3) := (((Below.refl _ _).alloc (Nat.le_refl _) _).alloc (by simp) _).alloc (by simp; omega) _
theorem kb3 (w : World) (o1 o2 o3 o4 : Obj) : Below w.heap.size w ((((w.alloc o1).alloc o2).alloc o3).alloc o4) := ((((Below.refl _ _).alloc (Nat.le_refl _) _).alloc (by simp) _).alloc (by simp; omega) _).alloc (by simp; omega) _
theorem kb4 (w : World) (o1 o2 o3 o4 o5 : Obj) : Below w.heap.size w (((((w.alloc o1).alloc o2).alloc o3).alloc o4).alloc o5) := (((((Below.refl _ _).alloc (Nat.le_refl _) _).alloc (by simp) _).alloc (by simp; omega) _).alloc (by simp; omega) _).alloc (by simp; omega) _
theorem is_of {w : World} {g n : Nat} {z : List Int} (h : Blk w g 3 ((z.map (Value.int .i64)).toArray)) (hz : z.length = n) (hn : n ≤ 64) : IS w (some ⟨g, 0, none⟩) n n z :=
  ⟨hz, Nat.le_refl _, by unfold lim; omega, fun k hk => ⟨g, 0, rfl, by
    rw [h.cell, Nat.zero_add]
    show _ = some (Value.int .i64 (gI z k))
    rw [gI_eq (by omega)]
    simp [show k < z.length by omega]⟩⟩
end Go.Proofs.Ytoeeklkebcgmaaa
