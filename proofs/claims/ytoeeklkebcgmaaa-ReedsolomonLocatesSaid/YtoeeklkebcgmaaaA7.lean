/- Several texts in one: Red0, Red1, Red2, Rf6, Rf7. -/
import Derived.Test.YtoeeklkebcgmaaaA4
import Derived.Test.YtoeeklkebcgmaaaA3
import Derived.Laws.CopyRow
import Derived.Test.YtoeeklkebcgmaaaA6
import Derived.Test.YtoeeklkebcgmaaaA2
import Derived.Laws.CopyOwn
/- A table of bytes that a call owns, row by row in blocks of their own; Zero and Cols of kinkeepref04. -/
namespace Go.Proofs.Ytoeeklkebcgmaaa
open Go.RowKit Gf

attribute [local go_sem] Gf.xor_bits Gf.and_bits Gf.or_bits Gf.ne_zero_iff Gf.eq_zero_iff Gf.eq_one_iff Gf.beq_bytes Gf.bne_bytes Gf.bv_toNat

/-- The outer block gO (capacity cap) holds n slices of W bytes; row i lies in block G i and reads as row i of m. -/
structure Tab (w : World) (base gO cap n W : Nat) (G : Nat → Nat) (m : List (List UInt8)) : Prop where
  len : m.length = n
  rect : Rect m W
  outer : ∃ cur : Array Value, Blk w gO 22 cur ∧ n ≤ cap ∧ cur.size = cap ∧ ∀ i, i < n → cur[i]? = some (.slice (some ⟨G i, 0, none⟩) W W)
  rows : ∀ i, i < n → Blk w (G i) 5 (row (gR m i))
  inj : ∀ i j, i < n → j < n → i ≠ j → G i ≠ G j
  far : ∀ i, i < n → G i ≠ gO
  old : base ≤ gO ∧ ∀ i, i < n → base ≤ G i

variable {w w' : World} {base gO cap n W : Nat} {G : Nat → Nat} {m : List (List UInt8)}
theorem Tab.cell (h : Tab w base gO cap n W G m) {i : Nat} (hi : i < n) : w.cell? ⟨gO, i, none⟩ = some (.slice (some ⟨G i, 0, none⟩) W W) := by
  obtain ⟨cur, h1, _, _, h2⟩ := h.outer
  rw [h1.cell]; exact h2 i hi
theorem Tab.outFrozen (h : Tab w base gO cap n W G m) (i : Nat) : w.frozen? ⟨gO, i, none⟩ = false := by
  obtain ⟨cur, h1, _⟩ := h.outer
  exact h1.frozen i
theorem Tab.at_ (h : Tab w base gO cap n W G m) {i k : Nat} (hi : i < n) (hk : k < W) : w.cell? ⟨G i, k, none⟩ = some (B (gB (gR m i) k)) := by
  rw [(h.rows i hi).cell]; exact row_get _ _ (by rw [h.rect i (by rw [h.len]; exact hi)]; exact hk)
theorem Tab.frozen (h : Tab w base gO cap n W G m) {i : Nat} (hi : i < n) (k : Nat) : w.frozen? ⟨G i, k, none⟩ = false := (h.rows i hi).frozen k
theorem Tab.kept (h : Tab w base gO cap n W G m) (hb : Below w.heap.size w w') : Tab w' base gO cap n W G m := by
  obtain ⟨cur, h1, h2⟩ := h.outer
  exact ⟨h.len, h.rect, ⟨cur, h1.kept hb, h2⟩, fun i hi => (h.rows i hi).kept hb, h.inj, h.far, h.old⟩
theorem Tab.drew (h : Tab w base gO cap n W G m) : Tab w.drew base gO cap n W G m := ⟨h.len, h.rect, h.outer, h.rows, h.inj, h.far, h.old⟩
theorem Tab.ms (h : Tab w base gO cap n W G m) (hn : n * 24 ≤ lim) (hW : W ≤ lim) : MS w (some ⟨gO, 0, none⟩) n cap m := by
  obtain ⟨cur, h1, h2, _, _⟩ := h.outer
  refine ⟨h.len, h2, hn, fun k hk => ⟨gO, 0, some ⟨G k, 0, none⟩, W, W, rfl, by rw [Nat.zero_add]; exact h.cell hk, BS.of_blk (h.rows k hk) (h.rect k (by rw [h.len]; exact hk)) hW⟩⟩
/-- A whole row is put. -/
theorem Tab.putRow (h : Tab w base gO cap n W G m) {i : Nat} (hi : i < n) {l : List UInt8} (hl : l.length = W) (hB : Blk w' (G i) 5 (row l)) (hk : ∀ g t cs, g ≠ G i → Blk w g t cs → Blk w' g t cs) : Tab w' base gO cap n W G (m.set i l) := by
  obtain ⟨cur, h1, h2⟩ := h.outer
  refine ⟨by simp [h.len], fun j hj => ?_, ⟨cur, hk _ _ _ (fun e => h.far i hi e.symm) h1, h2⟩, fun j hj => ?_, h.inj, h.far, h.old⟩
  · by_cases e : i = j
    · subst e; rw [gR_set_self (by rw [h.len]; exact hi)]; exact hl
    · rw [gR_set_ne e]; exact h.rect j (by simpa using hj)
  · by_cases e : i = j
    · subst e; rw [gR_set_self (by rw [h.len]; exact hi)]; exact hB
    · rw [gR_set_ne e]; exact hk _ _ _ (h.inj j i hj hi (fun e' => e e'.symm)) (h.rows j hj)
/-- One byte is put. -/
theorem Tab.put (h : Tab w base gO cap n W G m) {i : Nat} (hi : i < n) (k : Nat) (b : UInt8) : Tab (w.setCell ⟨G i, k, none⟩ (B b)) base gO cap n W G (m.set i ((gR m i).set k b)) :=
  h.putRow hi (by rw [List.length_set]; exact h.rect i (by rw [h.len]; exact hi)) (by rw [← row_set]; exact (h.rows i hi).set_ k (B b)) (fun _ _ _ hg hB => hB.far hg _)
theorem swp_inj (a b i j : Nat) (h : (if a = j then i else if a = i then j else a) = (if b = j then i else if b = i then j else b)) : a = b := by
  repeat' split at h
  all_goals omega
/-- Two rows change places. -/
theorem Tab.swap (h : Tab w base gO cap n W G m) {i j : Nat} (hi : i < n) (hj : j < n) : Tab ((w.setCell ⟨gO, i, none⟩ (.slice (some ⟨G j, 0, none⟩) W W)).setCell ⟨gO, j, none⟩ (.slice (some ⟨G i, 0, none⟩) W W)) base gO cap n W (fun k => G (if k = j then i else if k = i then j else k)) (swp m i j) := by
  obtain ⟨cur, h1, h2, h3, h4⟩ := h.outer
  have hsw : ∀ k, k < n → (if k = j then i else if k = i then j else k) < n := fun k hk => by
    by_cases e1 : k = j
    · rw [if_pos e1]; exact hi
    · rw [if_neg e1]
      by_cases e2 : k = i
      · rw [if_pos e2]; exact hj
      · rw [if_neg e2]; exact hk
  refine ⟨by rw [swp_length, h.len], swp_rect _ _ _ _ h.rect (by rw [h.len]; exact hi) (by rw [h.len]; exact hj), ⟨_, (h1.set_ i _).set_ j _, h2, by simp [h3], fun k hk => ?_⟩, fun k hk => ?_, fun a b ha hb hab => ?_, fun k hk => h.far _ (hsw k hk), h.old.1, fun k hk => h.old.2 _ (hsw k hk)⟩
  · rw [Array.getElem?_setIfInBounds]
    by_cases ej : j = k
    · subst ej; simp [h3]; omega
    · rw [if_neg ej, Array.getElem?_setIfInBounds]
      by_cases ei : i = k
      · subst ei
        rw [if_pos rfl, if_pos (by omega), if_neg (fun e => ej e.symm), if_pos rfl]
      · rw [if_neg ei, h4 k hk, if_neg (fun e => ej e.symm), if_neg (fun e => ei e.symm)]
  · rw [swp_get _ _ _ _ (by rw [h.len]; exact hi) (by rw [h.len]; exact hj) (by rw [h.len]; exact hk)]
    exact ((h.rows _ (hsw k hk)).far (h.far _ (hsw k hk)) _).far (h.far _ (hsw k hk)) _
  · exact h.inj _ _ (hsw a ha) (hsw b hb) (fun e => hab (swp_inj a b i j e))
theorem Tab.putBelow (h : Tab w base gO cap n W G m) {w0 : World} (hb : Below base w0 w) {i : Nat} (hi : i < n) (k : Nat) (v : Value) : Below base w0 (w.setCell ⟨G i, k, none⟩ v) := hb.setCell (h.old.2 i hi) v

def zmat (n W : Nat) : List (List UInt8) := List.replicate n (zeros W)
theorem zmat_get {n W i : Nat} (h : i < n) : gR (zmat n W) i = zeros W := by rw [gR_eq (by simpa [zmat] using h)]; simp [zmat]
theorem zmat_rect (n W : Nat) : Rect (zmat n W) W := fun i hi => by rw [zmat_get (by simpa [zmat] using hi), zeros_length]

/-- What Zero has after k rows. -/
def ZeI (k W : Nat) (v : Value) (w wr : World) : Prop :=
  ∃ (ps : List Value) (G : Nat → Nat), wr.ownsRow w.heap.size 22 1 v k ps ∧ Below w.heap.size w wr ∧ (∀ i, i < k → ps[i]? = some (.slice (some ⟨G i, 0, none⟩) W W) ∧ Blk wr (G i) 5 (row (zeros W)) ∧ w.heap.size ≤ G i) ∧ (∀ i j, i < k → j < k → i ≠ j → G i ≠ G j)
def addG (G : Nat → Nat) (k g i : Nat) : Nat := if i < k then G i else g
theorem addG_lo {G : Nat → Nat} {k g i : Nat} (h : i < k) : addG G k g i = G i := if_pos h
theorem addG_hi {G : Nat → Nat} {k g i : Nat} (h : ¬ i < k) : addG G k g i = g := if_neg h
def ZeRet (n W : Nat) (w : World) (e : Ending) (w' : World) : Prop := ∃ (gO cap : Nat) (G : Nat → Nat), e = .returned (.slice (some ⟨gO, 0, none⟩) n cap) ∧ Tab w' w.heap.size gO cap n W G (zmat n W) ∧ Below w.heap.size w w'

set_option maxRecDepth 100000 in
set_option maxHeartbeats 1000000 in
theorem zero_any (n W : Nat) (w : World) (hn : 0 < n) (hn8 : n ≤ 64) (hW : W ≤ 140737488355328) :
    Calls Try.prog 51 #[.int .i64 (n : Int), .int .i64 (W : Int)] w (ZeRet n W w) := by
  have hmk := make_bytes W hW
  have hn8' : (n : Int) ≤ 64 := by omega
  go_enter Try.func51, Try.ntmps51
  go_wp2_with fail
  have HO : Hid (ZeI 0 W (.slice (some ⟨w.heap.size, 0, none⟩) 0 0) w (w.alloc (.cells #[] 22))) := Lib.hid ⟨[], fun _ => 0, World.ownsRow_lit w #[] 0 (Nat.le_refl _) (by simp [maxLen]) rfl, (Below.refl _ _).alloc (Nat.le_refl _) _, fun i hi => absurd hi (by omega), fun i _ hi => absurd hi (by omega)⟩
  go_loopw [5, 6] (fun v i wr => ∃ k : Nat, k ≤ n ∧ i = .int .i64 (k : Int) ∧ Hid (ZeI k W v w wr)) (fun _ i _ => n - (intOf i).toNat)
  case atStart => exact ⟨0, by omega, rfl, HO⟩
  case round =>
    obtain ⟨k, hk, rfl, hI⟩ := hrel
    by_cases hlt : k < n
    · obtain ⟨ps, G, hown, hb, hps, hinj⟩ := hI.out
      obtain ⟨wA, hwA⟩ : ∃ wA, wA = (wr.alloc (.cells (row (zeros W)) 5)).alloc (.cells #[.slice (some ⟨wr.heap.size, 0, none⟩) W W] 22) := ⟨_, rfl⟩
      have hbA : Below wr.heap.size wr wA := by rw [hwA]; exact ((Below.refl _ _).alloc (Nat.le_refl _) _).alloc (by simp) _
      have HOW := Lib.hid (Kp.own (S := fun _ => False) (Kp.of_below hbA) hown (fun _ _ => id))
      have HKA : Hid (Blk wA (wr.heap.size + 1) 22 #[.slice (some ⟨wr.heap.size, 0, none⟩) W W]) := Lib.hid (by rw [hwA]; exact Blk.new1 wr _ _ _)
      have HKZ : Hid (Blk wA wr.heap.size 5 (row (zeros W))) := Lib.hid (by rw [hwA]; exact (Blk.new wr _ _).alloc _)
      have HSA : Hid (w.heap.size ≤ wA.heap.size) := Lib.hid (Nat.le_trans hb.size hbA.size)
      have HBA := Lib.hid hbA
      have HB := Lib.hid hb
      have HPS := Lib.hid hps
      have HIN := Lib.hid hinj
      have HOWN := Lib.hid hown
      have HWA := Lib.hid hwA
      clear hown hb hps hinj hbA hwA hI HO
      go_wp2_with (first
        | (at_builtin; rw [← HWA.out]; refine wpList_app1 wA rfl (.tmp 13) (.tmp 16) 30 22 (.slice none 0 0) 24 Try.underlying30 infoBytes rfl rfl w.heap.size u5 k ps rfl HOW.out (wr.heap.size + 1) 1 22 (.slice (some ⟨wr.heap.size, 0, none⟩) W W) rfl HKA.out rfl (by omega) (by omega) HSA.out ?_; intro v4 w4 hp4))
      have HR : Hid (ZeI (k + 1) W v4 w w4) := by
        have hpl : ps.length = k := by have := HOWN.out.1; simpa using this
        have hK : Kp (fun b => u5.ownBlock = some b) wA w4 := (Kp.refl _ _).grown hp4.2.1 (fun _ e => .inl e)
        refine Lib.hid ⟨ps ++ [.slice (some ⟨wr.heap.size, 0, none⟩) W W], addG G k wr.heap.size, hp4.1, (below_thenB HB.out HB.out.size HBA.out).grown hp4.2.1 HSA.out (fun b hb' => own_base HOWN.out b hb'), fun i hi => ?_, fun i j hi hj hne => ?_⟩
        · by_cases hik : i < k
          · obtain ⟨q1, q2, q3⟩ := HPS.out i hik
            rw [addG_lo hik]
            exact ⟨by rw [List.getElem?_append_left (by omega)]; exact q1, hK.blk (q2.kept HBA.out) (own_ne (e := 22) HOW.out (q2.kept HBA.out) (by decide)), q3⟩
          · obtain rfl : i = k := by omega
            rw [addG_hi hik]
            exact ⟨by rw [List.getElem?_append_right (by omega), hpl, Nat.sub_self]; rfl, hK.blk HKZ.out (own_ne (e := 22) HOW.out HKZ.out (by decide)), HB.out.size⟩
        · by_cases hik : i < k <;> by_cases hjk : j < k
          · rw [addG_lo hik, addG_lo hjk]; exact HIN.out i j hik hjk hne
          · rw [addG_lo hik, addG_hi hjk]; have := (HPS.out i hik).2.1.lt; omega
          · rw [addG_hi hik, addG_lo hjk]; have := (HPS.out j hjk).2.1.lt; omega
          · omega
      clear hp4
      go_roundw
      case rel => exact ⟨k + 1, by omega, by go_num, HR⟩
      case measure => simp [intOf]; omega
    · obtain rfl : k = n := by omega
      obtain ⟨ps, G, hown, hb, hps, hinj⟩ := hI.out
      have HR : Hid (ZeRet k W w (.returned u5) wr) := by
        rcases hown.2 with ⟨_, h0⟩ | ⟨gO, cap, cur, rfl, hbase, hB, h1, h2, h3, h4⟩
        · omega
        · refine Lib.hid ⟨gO, cap, G, rfl, ⟨by simp [zmat], zmat_rect k W, ⟨cur, hB, h1, by simpa using h3, fun i hi => ?_⟩, fun i hi => by rw [zmat_get hi]; exact (hps i hi).2.1, hinj, fun i hi e => ?_, hbase, fun i hi => (hps i hi).2.2⟩, hb⟩
          · have := hown.cellAt i (by have := hown.1; omega)
            rw [Blk.cell (show Blk wr gO 22 cur from hB)] at this
            rw [this]; exact (hps i hi).1
          · have h5 := (hps i hi).2.1
            rw [e] at h5
            have h6 : Blk wr gO 22 cur := hB
            unfold Blk at h5 h6
            rw [h5] at h6
            injection h6 with h6
            injection h6 with _ h7
            exact absurd h7 (by decide)
      clear hown hb hps hinj hI HO
      go_wp2_with fail
      go_ret
      exact HR.out

set_option maxHeartbeats 400000 in
theorem cols_any (A : Option Addr) (n c : Nat) (m : List (List UInt8)) (W : Nat) (w : World) (h : MS w A n c m) (hr : Rect m W) (hn : 0 < n) :
    Calls Try.prog 64 #[.slice A n c] w fun e w' => e = .returned (.int .i64 (W : Int)) ∧ w = w' := by
  have hq : ((n : Int) == 0) = false := by simp; omega
  obtain ⟨g, o, A1, n1, c1, rfl, hc, hr1⟩ := h.at_ (Below.refl _ _) hn
  obtain rfl : n1 = W := by rw [← hr1.1]; exact hr 0 (by rw [h.1]; exact hn)
  rw [Nat.add_zero] at hc
  clear h hr1 hr
  go_enter Try.func64, Try.ntmps64
  go_wp2_with fail
  go_ret
  exact ⟨rfl, rfl⟩
end Go.Proofs.Ytoeeklkebcgmaaa
/- Contract of kinkeepref04.Reduce: it computes 'red' over all columns. -/
namespace Go.Proofs.Ytoeeklkebcgmaaa
open Go.RowKit Gf

attribute [local go_sem] Gf.xor_bits Gf.and_bits Gf.or_bits Gf.ne_zero_iff Gf.eq_zero_iff Gf.eq_one_iff Gf.beq_bytes Gf.bne_bytes Gf.bv_toNat

/-- The first k of a, the rest of b. -/
def blend (a b : List UInt8) (k : Nat) : List UInt8 := a.take k ++ b.drop k
theorem blend_zero (a b : List UInt8) : blend a b 0 = b := by simp [blend]
theorem blend_length {a b : List UInt8} (h : a.length = b.length) (k : Nat) : (blend a b k).length = b.length := by simp [blend]; omega
theorem blend_all {a b : List UInt8} (h : a.length = b.length) {k : Nat} (hk : b.length ≤ k) : blend a b k = a := by
  rw [blend, List.take_of_length_le (by omega), List.drop_eq_nil_of_le hk, List.append_nil]
theorem blend_get {a b : List UInt8} (h : a.length = b.length) {k : Nat} (hk : k < b.length) : gB (blend a b k) k = gB b k := by
  rw [gB_eq (by rw [blend_length h]; exact hk), gB_eq hk]
  simp only [blend]
  rw [List.getElem_append_right (by simp; omega)]
  simp [show min k a.length = k by omega]
theorem blend_set {a b : List UInt8} (h : a.length = b.length) {k : Nat} (hk : k < b.length) : (blend a b k).set k (gB a k) = blend a b (k + 1) := by
  apply List.ext_getElem (by rw [List.length_set, blend_length h, blend_length h])
  intro i h1 h2
  rw [List.length_set, blend_length h] at h1
  rw [List.getElem_set]
  by_cases e : k = i
  · subst e
    rw [if_pos rfl, gB_eq (by omega)]
    simp only [blend]
    rw [List.getElem_append_left (by simp; omega)]
    simp
  · rw [if_neg e]
    simp only [blend]
    by_cases hi : i < k
    · rw [List.getElem_append_left (by simp; omega), List.getElem_append_left (by simp; omega)]; simp
    · rw [List.getElem_append_right (by simp; omega), List.getElem_append_right (by simp; omega)]
      simp only [List.getElem_drop]
      congr 1
      simp
      omega
theorem muladd_zero {dst src : List UInt8} (h : dst.length = src.length) : muladd dst src 0 = dst := by
  apply List.ext_getElem (by rw [muladd_length _ _ _ h]; omega)
  intro i h1 h2
  simp [muladd, zero_mul]
theorem red_np {m : List (List UInt8)} {W : Nat} (hr : Rect m W) : ∀ k, (red m k).2 ≤ m.length
  | 0 => Nat.zero_le _
  | k + 1 => by
    have ih := red_np hr k
    have hk := (red_keeps hr k).2
    rw [red]
    cases hp : pvF (red m k).1 (red m k).2 k with
    | none => rw [redS_none hp]; exact ih
    | some f => rw [redS_some hp]; have := pvF_spec hp; show (red m k).2 + 1 ≤ _; omega
/-- Row i is cleared. -/
theorem clr_put {s : List (List UInt8)} {W top c i : Nat} (hs : Rect s W) (ht : top < s.length) (hi : i < s.length) (hit : i ≠ top) : (clr s top c i).set i (muladd (gR s i) (prow s top c) (gB (gR s i) c)) = clr s top c (i + 1) := by
  by_cases hg : gB (gR s i) c = 0
  · rw [hg, muladd_zero (by rw [hs i hi, prow_length, hs top ht]), ← clr_skip s top c i (.inr hg)]
    have hgi : gR (clr s top c i) i = gR s i := by rw [clr_get _ _ _ _ _ hi, clrow, if_neg hit, if_neg (fun h => absurd h.1 (by omega))]
    rw [← hgi]
    apply List.ext_getElem (by simp)
    intro j h1 h2
    rw [List.getElem_set]
    by_cases e : i = j
    · subst e; rw [if_pos rfl, gR_eq h2]
    · rw [if_neg e]
  · exact clr_set s top c i hit hg

/-- copy, where its run is known. -/
theorem wp_copyB {w : World} {o : Oper} {a : Act} {K : Act → World → Prop} {Q : Exit → Act → World → Prop} (d s : Operand) (t t' : TypeId)
    (ho : o.op = .call { callee := .builtin .copy, args := #[d, s], argTypes := #[t, t'] }) (v u : Value) (hd : a.eval d = v) (hs : a.eval s = u) {v' : Value} {w' : World}
    (hr : (Builtin.copy_ #[t, t'] o.type #[v, u]).run Try.prog w = .ok v' w') (h : K (a.put o.dst v') w') : o.wp Try.prog a w K Q := by
  unfold Oper.wp execOp
  simp only [ho, resolve, invoke, builtin, Sem.run_bind, Sem.run_pure, Result.andThen_ok, List.map_toArray, List.map_cons, List.map_nil, hd, hs, hr]
  exact h
set_option maxRecDepth 100000 in
theorem copy_row_run {w : World} {g W : Nat} {A : Option Addr} {c : Nat} {old l : List UInt8} (ty : TypeId) (hB : Blk w g 5 (row old)) (ho : old.length = W) (hl : BS w A W c l) (h0 : 0 < W) :
    ∃ w', (Builtin.copy_ #[22, 22] ty #[.slice (some ⟨g, 0, none⟩) W W, .slice A W c]).run Try.prog w = .ok (goInt W) w' ∧ Blk w' g 5 (row l) ∧ (∀ k t cs, k ≠ g → Blk w k t cs → Blk w' k t cs) ∧ ∀ (B0 : Nat) (w0 : World), Below B0 w0 w → B0 ≤ g → Below B0 w0 w' := by
  have hinfo : (Try.prog.info? 5).map (·.size) = some 1 := by
    obtain ⟨i, h1, _, h3, _⟩ := info_some infoU8
    rw [h1]; simp [h3]
  obtain ⟨ga, oa, rfl, _⟩ := hl.2.2.2 0 h0
  have hrun := run_copy_row (P := Try.prog) w 22 22 ty 5 g 0 W W ⟨ga, oa, none⟩ W c (row old) 5 (l.map B) Try.underlying22 hinfo hB (by simp [hl.1]) (fun j v hj => by
    obtain ⟨hj1, hj2⟩ := List.getElem?_eq_some_iff.1 hj
    have hjW : j < W := by rw [← hl.1]; simpa using hj1
    obtain ⟨g', o', e', hc⟩ := hl.2.2.2 j hjW
    obtain ⟨rfl, rfl⟩ : ga = g' ∧ oa = o' := by cases e'; exact ⟨rfl, rfl⟩
    have ea : (⟨ga, oa, none⟩ : Addr).add j = ⟨ga, oa + j, none⟩ := by
      unfold Addr.add; split
      · rename_i hj0; subst hj0; simp
      · rfl
    rw [ea, hc, ← hj2]
    show some (B (gB l j)) = _
    rw [gB_eq (by rw [hl.1]; exact hjW)]
    simp) (by rw [row_size]; simp [hl.1, ho]) (by simp [Value.oneCell'])
  have e : ((row old).toList.take 0 ++ l.map B ++ (row old).toList.drop (0 + (l.map B).length)).toArray = row l := by
    have : (row old).toList.drop (0 + (l.map B).length) = [] := List.drop_eq_nil_of_le (by rw [Array.length_toList, row_size]; simp [hl.1, ho])
    rw [this]; simp [row]
  rw [e, List.length_map, hl.1] at hrun
  exact ⟨_, hrun, setRow_heap _ _ _ _ _ _ hB, fun k t cs hk h => (setRow_other _ _ _ _ hk).trans h, fun B0 w0 hb hg => below_setRow hb hg _⟩
end Go.Proofs.Ytoeeklkebcgmaaa
/- Contract of kinkeepref04.Reduce: the walk. -/
namespace Go.Proofs.Ytoeeklkebcgmaaa
open Go.RowKit Gf

attribute [local go_sem] Gf.xor_bits Gf.and_bits Gf.or_bits Gf.ne_zero_iff Gf.eq_zero_iff Gf.eq_one_iff Gf.beq_bytes Gf.bne_bytes Gf.bv_toNat

/-- The rows that are copied, the others zero. -/
def cpM (m : List (List UInt8)) (W i : Nat) : List (List UInt8) := (List.range m.length).map fun j => if j < i then gR m j else zeros W
theorem cpM_length (m : List (List UInt8)) (W i : Nat) : (cpM m W i).length = m.length := by simp [cpM]
theorem cpM_get {m : List (List UInt8)} {W i j : Nat} (h : j < m.length) : gR (cpM m W i) j = if j < i then gR m j else zeros W := by
  rw [gR_eq (by rw [cpM_length]; exact h)]; simp [cpM]
theorem cpM_zero (m : List (List UInt8)) (W : Nat) : cpM m W 0 = zmat m.length W := by
  apply List.ext_getElem (by simp [cpM, zmat])
  intro j h1 h2; simp [cpM, zmat]
theorem cpM_all (m : List (List UInt8)) (W : Nat) : cpM m W m.length = m := by
  apply List.ext_getElem (by simp [cpM])
  intro j h1 h2
  simp [cpM, h2, gR_eq h2]
theorem cpM_set (m : List (List UInt8)) (W i : Nat) : (cpM m W i).set i (gR m i) = cpM m W (i + 1) := by
  apply List.ext_getElem (by simp [cpM])
  intro j h1 h2
  rw [List.getElem_set]
  simp only [cpM, List.getElem_map, List.getElem_range]
  by_cases e : i = j
  · subst e; simp
  · rw [if_neg e]
    by_cases h3 : j < i
    · rw [if_pos h3, if_pos (by omega)]
    · rw [if_neg h3, if_neg (by omega)]
theorem zmat_length (n W : Nat) : (zmat n W).length = n := by simp [zmat]

/-- A table of the call's own, and nothing older has changed. -/
def TabB (w0 : World) (gO cap n W : Nat) (m : List (List UInt8)) (w : World) : Prop := (∃ G, Tab w w0.heap.size gO cap n W G m) ∧ Below w0.heap.size w0 w
def RdI (w0 : World) (gO cap n W : Nat) (m : List (List UInt8)) (c : Nat) (v : Value) (w : World) : Prop :=
  TabB w0 gO cap n W (red m c).1 w ∧ ∃ xs, w.ownsRow w0.heap.size 3 1 v (red m c).2 xs
theorem TabB.drew {w0 : World} {gO cap n W : Nat} {m : List (List UInt8)} {w : World} (h : TabB w0 gO cap n W m w) : TabB w0 gO cap n W m w.drew := ⟨h.1.elim fun G hG => ⟨G, hG.drew⟩, h.2.drew⟩

theorem own_slice {w : World} {base : Nat} {e : TypeId} {v : Value} {n : Nat} {xs : List Value} (h : w.ownsRow base e 1 v n xs) : ∃ A c, v = .slice A n c := by
  rcases h.2 with ⟨rfl, rfl⟩ | ⟨g, cap, _, rfl, _⟩
  · exact ⟨none, 0, rfl⟩
  · exact ⟨_, cap, rfl⟩
theorem redS_pair (m : List (List UInt8)) (k : Nat) : red m (k + 1) = redS (red m k).1 (red m k).2 k := rfl
/-- A row of another element type stays behind a store into the table. -/
theorem own_far {w : World} {base : Nat} {e t : TypeId} {v : Value} {n g k : Nat} {xs : List Value} {cs : Array Value} (h : w.ownsRow base e 1 v n xs) (hg : Blk w g t cs) (hne : e ≠ t) (u : Value) : (w.setCell ⟨g, k, none⟩ u).ownsRow base e 1 v n xs :=
  Kp.own (S := (· = g)) (Kp.set (p := ⟨g, k, none⟩) (Kp.refl (· = g) w) (.inl rfl) u) h (fun b hb hbg => own_ne h hg hne (by rw [← hbg]; exact hb))

/-- A table and a row of ints, both of the call's own. -/
def TJ (w0 : World) (gO cap n W : Nat) (m : List (List UInt8)) (v : Value) (np : Nat) (w : World) : Prop :=
  ∃ G xs, Tab w w0.heap.size gO cap n W G m ∧ Below w0.heap.size w0 w ∧ w.ownsRow w0.heap.size 3 1 v np xs
theorem TJ.put {w0 w : World} {gO cap n W np : Nat} {m m' : List (List UInt8)} {v : Value} {G : Nat → Nat} {xs : List Value} (ht : Tab w w0.heap.size gO cap n W G m) (hb : Below w0.heap.size w0 w) (ho : w.ownsRow w0.heap.size 3 1 v np xs)
    {i : Nat} (hi : i < n) (k : Nat) (b : UInt8) (e : m.set i ((gR m i).set k b) = m') : TJ w0 gO cap n W m' v np (w.setCell ⟨G i, k, none⟩ (B b)).drew := by
  have h1 := ht.put hi k b
  rw [e] at h1
  exact ⟨G, xs, h1.drew, (ht.putBelow hb hi k _).drew, own_far ho (ht.rows i hi) (by decide) _⟩
theorem gR_set_ne' {m : List (List UInt8)} {k j : Nat} (h : k ≠ j) (l : List UInt8) : gR (m.set k l) j = gR m j := gR_set_ne h l

set_option maxRecDepth 100000 in
set_option maxHeartbeats 2500000 in
theorem reduce_any' (A : Option Addr) (n c : Nat) (m : List (List UInt8)) (W : Nat) (w : World) (h : MS w A n c m) (hr : Rect m W) (hn : 0 < n) (hn64 : n ≤ 64) (hW0 : 0 < W) :
    Calls Try.prog 47 #[.slice A n c] w fun e w' => ∃ gO cap v2, e = .returned (.tuple #[.slice (some ⟨gO, 0, none⟩) n cap, v2]) ∧ TabB w gO cap n W (red m W).1 w' := by
  have HLm := Lib.hid h.1
  have HM := Lib.hid h
  have HRC := Lib.hid hr
  have hWl : W ≤ 140737488355328 := by
    obtain ⟨_, _, _, n1, _, _, _, hr1⟩ := h.at_ (Below.refl _ _) hn
    have h1 := hr1.len_le
    have h2 := hr1.1
    rw [hr 0 (by rw [h.1]; exact hn)] at h2
    omega
  clear h hr
  go_enter Try.func47, Try.ntmps47
  go_wp2_with fail
  refine (cols_any A n c m W w HM.out HRC.out hn).mono ?_
  rintro e w' ⟨rfl, rfl⟩
  go_wp2_with fail
  refine (zero_any n W w hn hn64 hWl).mono ?_
  rintro e w1 ⟨gO, cap, G, rfl, ht1, hb1⟩
  have HT1 : Hid (TabB w gO cap n W (cpM m W 0) w1) := Lib.hid ⟨⟨G, by rw [cpM_zero, HLm.out]; exact ht1⟩, hb1⟩
  clear ht1 hb1
  go_wp2_with fail
  go_loopw [5] (fun x wr => ∃ i : Nat, i ≤ n ∧ x = .int .i64 (i : Int) ∧ Hid (TabB w gO cap n W (cpM m W i) wr)) (fun x _ => n - (intOf x).toNat)
  case atStart => exact ⟨0, by omega, rfl, HT1⟩
  case round =>
    obtain ⟨i, hi, rfl, hI⟩ := hrel
    by_cases hlt : i < n
    · obtain ⟨⟨G, ht⟩, hb⟩ := hI.out
      obtain ⟨g2, o2, A2, n2, c2, rfl, hc2, hr2⟩ := HM.out.at_ hb hlt
      obtain rfl : n2 = W := by rw [← hr2.1]; exact HRC.out i (by rw [HLm.out]; exact hlt)
      have x1 := ht.cell hlt
      obtain ⟨w3, hrun, hk3, hfar3, hbel3⟩ := copy_row_run (w := wr.drew) 3 (ht.drew.rows i hlt) (ht.rect i (by rw [ht.len]; exact hlt)) hr2.drew hW0
      have HR : Hid (TabB w gO cap n n2 (cpM m n2 (i + 1)) w3) := by
        refine Lib.hid ⟨⟨G, ?_⟩, hbel3 _ _ hb.drew (ht.old.2 i hlt)⟩
        have h9 := ht.drew.putRow hlt (w' := w3) (hr2.1) hk3 (fun g t cs hg hB => hfar3 g t cs hg hB)
        rw [cpM_set] at h9
        exact h9
      have HRUN := Lib.hid hrun
      clear ht hb hr2 hrun hk3 hfar3 hbel3 hI HT1
      go_wp2_with fail
      refine Text.wp_region_text (fun _ => True) [(0, 4), (1, 4), (2, 4), (4, 4), (5, 4), (6, 4), (3, 1), (7, 1), (8, 2)] (by kernel_rfl) (by kernel_rfl) (fun _ _ _ _ _ h => h) (trivial) ?_
      iterate 6 (refine Text.purek rfl rfl (fun K hK => ⟨_, fun w' => by go_simp <;> rfl, ?_⟩); go_simp; refine hK _ ?_; clear hK K)
      iterate 2 (refine Text.readk rfl rfl (fun K hK => ⟨_, by go_simp <;> rfl, ?_⟩); go_simp; refine hK _ ?_; clear hK K)
      refine Text.eff rfl rfl (fun K hK => ?_)
      refine wp_copyB (.tmp 29) (.tmp 33) _ _ rfl _ _ rfl rfl HRUN.out ?_
      go_simp
      refine hK _ _ trivial ?_
      clear hK K
      refine Text.done ?_
      go_wp2_with fail
      go_roundw
      case rel => exact ⟨i + 1, by omega, by go_num, HR⟩
      case measure => simp [intOf]; omega
    · obtain rfl : i = n := by omega
      have HI0 : Hid (RdI w gO cap i W m 0 (.slice (some ⟨wr.heap.size, 0, none⟩) 0 0) (wr.alloc (.cells #[] 3))) := by
        obtain ⟨⟨G, ht⟩, hb⟩ := hI.out
        have hbA : Below wr.heap.size wr (wr.alloc (.cells #[] 3)) := (Below.refl _ _).alloc (Nat.le_refl _) _
        have e : cpM m W i = m := by have := cpM_all m W; rwa [HLm.out] at this
        rw [e] at ht
        exact Lib.hid ⟨⟨⟨G, ht.kept hbA⟩, below_then hb hbA⟩, [], ownsRow_base (World.ownsRow_lit wr #[] 0 (Nat.le_refl _) (by simp [maxLen]) rfl) hb.size⟩
      clear hI HT1
      go_wp2_with fail
      go_loopw [6, 7] (fun v x wr => ∃ c : Nat, c ≤ W ∧ x = .int .i64 (c : Int) ∧ Hid (RdI w gO cap i W m c v wr)) (fun _ x _ => W - (intOf x).toNat)
      case atStart => exact ⟨0, by omega, rfl, HI0⟩
      case round =>
        obtain ⟨cc, hcc, rfl, hI⟩ := hrel
        by_cases hcW : cc < W
        · obtain ⟨⟨⟨G, ht⟩, hb⟩, xs, hown⟩ := hI.out
          have hkeep := red_keeps HRC.out cc
          have hnpl := red_np HRC.out cc
          rw [HLm.out] at hkeep hnpl
          have hnext := redS_pair m cc
          obtain ⟨M, hM⟩ : ∃ M, M = (red m cc).1 := ⟨_, rfl⟩
          obtain ⟨np, hnp⟩ : ∃ np, np = (red m cc).2 := ⟨_, rfl⟩
          rw [← hM] at ht hkeep hnext
          rw [← hnp] at hown hnpl hnext
          obtain ⟨A6, c6, rfl⟩ := own_slice hown
          have HC := Lib.hid (cols_any A i c m W wr (HM.out.kept hb) HRC.out hn)
          have HT := Lib.hid ht
          have HB := Lib.hid hb
          have HOW := Lib.hid hown
          have HNX := Lib.hid hnext
          have HMR := Lib.hid hkeep.1
          have HML := Lib.hid hkeep.2
          have hnp64 : (np : Int) ≤ 64 := by omega
          clear ht hb hown hnext hkeep hM hnp hI HI0
          go_wp2_with fail
          refine HC.out.mono ?_
          rintro e w' ⟨rfl, rfl⟩
          clear HC
          go_wp2_with fail
          go_loop [9] (fun x => ∃ p : Nat, np ≤ p ∧ p ≤ i ∧ x = .int .i64 (p : Int) ∧ Hid (∀ j, np ≤ j → j < p → gB (gR M j) cc = 0)) (fun x => i - (intOf x).toNat)
          case atStart => exact ⟨np, Nat.le_refl _, hnpl, rfl, Lib.hid (fun j h1 h2 => absurd h2 (by omega))⟩
          case round =>
            obtain ⟨p, hp1, hp2, rfl, hz⟩ := hrel
            by_cases hpn : p < i
            · have x1 := HT.out.cell hpn
              obtain ⟨b, hbd⟩ : ∃ b, b = gB (gR M p) cc := ⟨_, rfl⟩
              have x2 := HT.out.at_ hpn hcW
              rw [← hbd] at x2
              cases hb0 : b == 0 with
              | true =>
                have HZ : Hid (∀ j, np ≤ j → j < p + 1 → gB (gR M j) cc = 0) := Lib.hid (fun j h1 h2 => by
                  by_cases e : j = p
                  · rw [e, ← hbd]; simpa using hb0
                  · exact hz.out j h1 (by omega))
                clear hbd hz
                go_wp2_with fail
                go_round
                case rel => exact ⟨p + 1, by omega, by omega, by go_num, HZ⟩
                case measure => simp [intOf]; omega
              | false =>
                have hne : gB (gR M p) cc ≠ 0 := by rw [← hbd]; simpa using hb0
                have HPV : Hid (pvF M np cc = some p) := Lib.hid (pvF_some hp1 (by rw [HML.out]; exact hpn) hne hz.out)
                have q1 : ((p : Int) == (i : Int)) = false := by simp; omega
                clear hbd hz hne
                have hnpi : np < i := by omega
                have y1 := HT.out.cell hnpi
                have f1 := HT.out.outFrozen np
                go_wp2_with fail
                refine Text.wp_region_text (fun _ => True) [(0, 4), (1, 4), (2, 4), (3, 4), (4, 4), (5, 4), (6, 4), (8, 4), (9, 4), (10, 4), (7, 1), (11, 1), (12, 4), (13, 2), (14, 4), (15, 2)] (by kernel_rfl) (by kernel_rfl) (fun _ _ _ _ _ h => h) (trivial) ?_
                iterate 10 (refine Text.purek rfl rfl (fun K hK => ⟨_, fun w' => by go_simp <;> rfl, ?_⟩); go_simp; refine hK _ ?_; clear hK K)
                iterate 2 (refine Text.readk rfl rfl (fun K hK => ⟨_, by go_simp <;> rfl, ?_⟩); go_simp; refine hK _ ?_; clear hK K)
                (refine Text.purek rfl rfl (fun K hK => ⟨_, fun w' => by go_simp <;> rfl, ?_⟩); go_simp; refine hK _ ?_; clear hK K)
                refine Text.eff rfl rfl (fun K hK => ?_)
                go_simp
                obtain ⟨wS, hwS⟩ : ∃ wS, wS = wr.setCell ⟨gO, np, none⟩ (.slice (some ⟨G p, 0, none⟩) W W) := ⟨_, rfl⟩
                obtain ⟨u, z1, z2⟩ : ∃ u, wS.cell? ⟨gO, p, none⟩ = some u ∧ wS.frozen? ⟨gO, p, none⟩ = false := by
                  obtain ⟨cur, hB0, hcap, hsz, _⟩ := HT.out.outer
                  have hB1 := hB0.set_ np (.slice (some ⟨G p, 0, none⟩) W W)
                  rw [← hwS] at hB1
                  exact ⟨_, by rw [hB1.cell]; exact Array.getElem?_eq_getElem (by simp; omega), hB1.frozen p⟩
                rw [← hwS]
                have HWS := Lib.hid hwS
                clear hwS
                refine hK _ _ trivial ?_
                clear hK K
                (refine Text.purek rfl rfl (fun K hK => ⟨_, fun w' => by go_simp <;> rfl, ?_⟩); go_simp; refine hK _ ?_; clear hK K)
                refine Text.eff rfl rfl (fun K hK => ?_)
                go_simp
                obtain ⟨wT, hwT⟩ : ∃ wT, wT = (wS.setCell ⟨gO, p, none⟩ (.slice (some ⟨G np, 0, none⟩) W W)).drew := ⟨_, rfl⟩
                obtain ⟨G2, hG2⟩ : ∃ G2 : Nat → Nat, G2 = fun k => G (if k = p then np else if k = np then p else k) := ⟨_, rfl⟩
                obtain ⟨S, hS⟩ : ∃ S, S = swp M np p := ⟨_, rfl⟩
                have HT2 : Hid (Tab wT w.heap.size gO cap i W G2 S) := Lib.hid (by rw [hwT, HWS.out, hG2, hS]; exact (HT.out.swap hnpi hpn).drew)
                have HB2 : Hid (Below w.heap.size w wT) := Lib.hid (by
                  rw [hwT, HWS.out]
                  exact ((HB.out.setCell (p := ⟨gO, np, none⟩) HT.out.old.1 _).setCell (p := ⟨gO, p, none⟩) HT.out.old.1 _).drew)
                have HOW2 : Hid (wT.ownsRow w.heap.size 3 1 (.slice A6 np c6) np xs) := Lib.hid (by
                  obtain ⟨cur, hB0, _⟩ := HT.out.outer
                  have h1 := own_far (k := np) HOW.out hB0 (by decide) (.slice (some ⟨G p, 0, none⟩) W W)
                  have h2 := own_far (k := p) h1 (hB0.set_ np _) (by decide) (.slice (some ⟨G np, 0, none⟩) W W)
                  rw [hwT, HWS.out]
                  exact h2)
                have HNXT : Hid (red m (cc + 1) = (clr S np cc i, np + 1)) := Lib.hid (by rw [HNX.out, redS_some HPV.out, hS, HML.out])
                have HSL : Hid (S.length = i) := Lib.hid HT2.out.len
                have HSR : Hid (Rect S W) := Lib.hid HT2.out.rect
                rw [← hwT]
                refine hK _ _ trivial ?_
                clear hK K z1 z2 HWS hwT hG2 hS x1 x2 y1 f1 HT HB HOW HNX HMR HML HPV wS
                refine Text.done ?_
                have y1 := HT2.out.cell hnpi
                have y2 := HT2.out.at_ hnpi hcW
                obtain ⟨f, hf⟩ : ∃ f, f = inv (gB (gR S np) cc) := ⟨_, rfl⟩
                have HF := Lib.hid hf
                have HCI : Hid (Calls Try.prog 35 #[B (gB (gR S np) cc)] wT fun e w' => e = .returned (B f) ∧ wT = w') := Lib.hid (by rw [hf]; exact rinv_any _ _)
                clear hf
                go_wp2_with fail
                refine HCI.out.mono ?_
                rintro e w' ⟨rfl, rfl⟩
                have HPL : Hid ((prow S np cc).length = (gR S np).length) := Lib.hid (prow_length _ _ _)
                have HSW : Hid ((gR S np).length = W) := Lib.hid (HSR.out np (by rw [HSL.out]; exact hnpi))
                have HPG : Hid (∀ k, k < W → gB (prow S np cc) k = mul (gB (gR S np) k) f) := Lib.hid (fun k hk => by
                  rw [HF.out, mul_comm, prow]
                  generalize inv (gB (gR S np) cc) = q
                  have := HSW.out
                  rw [gB_eq (by simp; omega), gB_eq (by omega)]; simp)
                have HJ0 : Hid (TJ w gO cap i W (S.set np (blend (prow S np cc) (gR S np) 0)) (.slice A6 np c6) np wT) := Lib.hid (by
                  rw [blend_zero]
                  have e : S.set np (gR S np) = S := by
                    have := HSL.out
                    rw [gR_eq (by omega)]; simp
                  rw [e]
                  exact ⟨G2, xs, HT2.out, HB2.out, HOW2.out⟩)
                clear y1 y2 HCI HT2 HB2 HOW2
                go_wp2_with fail
                go_loopw [11] (fun x wr => ∃ k : Nat, k ≤ W ∧ x = .int .i64 (k : Int) ∧ Hid (TJ w gO cap i W (S.set np (blend (prow S np cc) (gR S np) k)) (.slice A6 np c6) np wr)) (fun x _ => W - (intOf x).toNat)
                case atStart => exact ⟨0, by omega, rfl, HJ0⟩
                case round =>
                  obtain ⟨k, hk, rfl, hJ⟩ := hrel
                  obtain ⟨G3, xs3, ht, hb, hown⟩ := hJ.out
                  have y1 := ht.cell hnpi
                  by_cases hkW : k < W
                  · obtain ⟨xk, hxk⟩ : ∃ xk, xk = gB (gR S np) k := ⟨_, rfl⟩
                    have hrow : gR (S.set np (blend (prow S np cc) (gR S np) k)) np = blend (prow S np cc) (gR S np) k := gR_set_self (by rw [HSL.out]; exact hnpi) _
                    have y2 := ht.at_ hnpi hkW
                    rw [hrow, blend_get HPL.out (by rw [HSW.out]; exact hkW), ← hxk] at y2
                    have y3 := ht.frozen hnpi k
                    have HR : Hid (TJ w gO cap i W (S.set np (blend (prow S np cc) (gR S np) (k + 1))) (.slice A6 np c6) np (wr.setCell ⟨G3 np, k, none⟩ (B (mul xk f))).drew) := Lib.hid (TJ.put ht hb hown hnpi k (mul xk f) (by
                      rw [hrow, List.set_set, hxk, ← HPG.out k hkW, blend_set HPL.out (by rw [HSW.out]; exact hkW)]))
                    clear ht hb hown hJ hrow hxk HJ0
                    go_wp2_with fail
                    refine Text.wp_region_text (fun _ => True) [(0, 4), (1, 4), (2, 4), (4, 4), (5, 4), (6, 4), (7, 4), (9, 4), (12, 4), (3, 1), (8, 1), (10, 4), (11, 1), (13, 1), (14, 4), (15, 2)] (by kernel_rfl) (by kernel_rfl) (fun _ _ _ _ _ h => h) (trivial) ?_
                    iterate 9 (refine Text.purek rfl rfl (fun K hK => ⟨_, fun w' => by go_simp <;> rfl, ?_⟩); go_simp; refine hK _ ?_; clear hK K)
                    iterate 2 (refine Text.readk rfl rfl (fun K hK => ⟨_, by go_simp <;> rfl, ?_⟩); go_simp; refine hK _ ?_; clear hK K)
                    (refine Text.purek rfl rfl (fun K hK => ⟨_, fun w' => by go_simp <;> rfl, ?_⟩); go_simp; refine hK _ ?_; clear hK K)
                    (refine Text.readk rfl rfl (fun K hK => ⟨_, by go_simp <;> rfl, ?_⟩); go_simp; refine hK _ ?_; clear hK K)
                    refine Text.quietk rfl rfl (fun K hK => ?_)
                    refine ⟨_, _, _, by go_simp <;> rfl, rmul_any xk f _, ?_⟩
                    go_simp
                    refine hK _ ?_
                    clear hK K
                    (refine Text.purek rfl rfl (fun K hK => ⟨_, fun w' => by go_simp <;> rfl, ?_⟩); go_simp; refine hK _ ?_; clear hK K)
                    refine Text.eff rfl rfl (fun K hK => ?_)
                    go_simp
                    refine hK _ _ trivial ?_
                    clear hK K
                    refine Text.done ?_
                    go_wp2_with fail
                    go_roundw
                    case rel => exact ⟨k + 1, by omega, by go_num, HR⟩
                    case measure => simp [intOf]; omega
                  · obtain rfl : k = W := by omega
                    have HJ1 : Hid (TJ w gO cap i k (clr S np cc 0) (.slice A6 np c6) np wr) := Lib.hid (by
                      rw [← clr_zero S np cc (by rw [HSL.out]; exact hnpi)]
                      have := hJ.out
                      rwa [blend_all HPL.out (by rw [HSW.out]; exact Nat.le_refl _)] at this)
                    clear ht hb hown hJ HJ0
                    go_wp2_with fail
                    go_loopw [12] (fun x wr => ∃ r : Nat, r ≤ i ∧ x = .int .i64 (r : Int) ∧ Hid (TJ w gO cap i k (clr S np cc r) (.slice A6 np c6) np wr)) (fun x _ => i - (intOf x).toNat)
                    case atStart => exact ⟨0, by omega, rfl, HJ1⟩
                    case round =>
                      obtain ⟨r, hr, rfl, hJ⟩ := hrel
                      by_cases hri : r < i
                      · obtain ⟨G3, xs3, ht, hb, hown⟩ := hJ.out
                        have y1 := ht.cell hri
                        have y2 := ht.at_ hri hcW
                        by_cases hrt : r = np
                        · have HR : Hid (TJ w gO cap i k (clr S np cc (r + 1)) (.slice A6 np c6) np wr) := Lib.hid (by rw [← clr_skip S np cc r (.inl hrt)]; exact hJ.out)
                          have q1 : ((r : Int) != (np : Int)) = false := by simp [hrt]
                          obtain ⟨b2, hb2⟩ : ∃ b2, b2 = gB (gR (clr S np cc r) r) cc := ⟨_, rfl⟩
                          rw [← hb2] at y2
                          clear ht hb hown hJ HJ1 hrt hb2
                          go_wp2_with fail
                          go_loopw [14] (fun x wr' => x = .int .i64 0 ∧ Hid (TJ w gO cap i k (clr S np cc (r + 1)) (.slice A6 np c6) np wr')) (fun _ _ => 0)
                          case atStart => exact ⟨rfl, HR⟩
                          case round =>
                            obtain ⟨rfl, hR⟩ := hrel
                            go_wp2_with fail
                            go_roundw
                            case rel => exact ⟨r + 1, by omega, by go_num, hR⟩
                            case measure => simp [intOf]; omega
                        · have hrS : gR (clr S np cc r) r = gR S r := by rw [clr_get _ _ _ _ _ (by rw [HSL.out]; exact hri), clrow, if_neg hrt, if_neg (fun h => absurd h.1 (by omega))]
                          have HPT : Hid (gR (clr S np cc r) np = prow S np cc) := Lib.hid (by rw [clr_get _ _ _ _ _ (by rw [HSL.out]; exact hnpi), clrow, if_pos rfl])
                          obtain ⟨P, hP⟩ : ∃ P, P = prow S np cc := ⟨_, rfl⟩
                          obtain ⟨g, hg⟩ : ∃ g, g = gB (gR S r) cc := ⟨_, rfl⟩
                          rw [hrS, ← hg] at y2
                          have q1 : ((r : Int) != (np : Int)) = true := by simp; omega
                          have HRW : Hid ((gR S r).length = k) := Lib.hid (HSR.out r (by rw [HSL.out]; exact hri))
                          have HPW : Hid (P.length = k) := Lib.hid (by rw [hP, HPL.out, HSW.out])
                          have HML6 : Hid ((muladd (gR S r) P g).length = (gR S r).length) := Lib.hid (by rw [muladd_length _ _ _ (by rw [HRW.out, HPW.out]), HPW.out, HRW.out])
                          have HJ6 : Hid (TJ w gO cap i k ((clr S np cc r).set r (blend (muladd (gR S r) P g) (gR S r) 0)) (.slice A6 np c6) np wr) := Lib.hid (by
                            rw [blend_zero, ← hrS]
                            have hl := clr_length S np cc r
                            have h2 := HSL.out
                            have e : (clr S np cc r).set r (gR (clr S np cc r) r) = clr S np cc r := by rw [gR_eq (by omega)]; simp
                            rw [e]
                            exact hJ.out)
                          have HEND : Hid ((clr S np cc r).set r (muladd (gR S r) P g) = clr S np cc (r + 1)) := Lib.hid (by rw [hP, hg]; exact clr_put HSR.out (by rw [HSL.out]; exact hnpi) (by rw [HSL.out]; exact hri) hrt)
                          rw [← hP] at HPT
                          have HRT := Lib.hid hrt
                          have HCL : Hid ((clr S np cc r).length = i) := Lib.hid (by rw [clr_length, HSL.out])
                          clear ht hb hown hJ HJ1 hrt hP hg hrS
                          go_wp2_with fail
                          obtain ⟨wo, rfl⟩ : ∃ wo : World, wo = wr := ⟨_, rfl⟩
                          go_loopw [14] (fun x wr => ∃ y : Nat, y ≤ k ∧ x = .int .i64 (y : Int) ∧ Hid (TJ w gO cap i k ((clr S np cc r).set r (blend (muladd (gR S r) P g) (gR S r) y)) (.slice A6 np c6) np wr)) (fun x _ => k - (intOf x).toNat)
                          case atStart => exact ⟨0, by omega, rfl, HJ6⟩
                          case round =>
                            obtain ⟨y, hy, rfl, hJ7⟩ := hrel
                            obtain ⟨G4, xs4, ht, hb, hown⟩ := hJ7.out
                            have z1 := ht.cell hri
                            have z3 := ht.cell hnpi
                            by_cases hyk : y < k
                            · have hrow : gR ((clr S np cc r).set r (blend (muladd (gR S r) P g) (gR S r) y)) r = blend (muladd (gR S r) P g) (gR S r) y := gR_set_self (by rw [HCL.out]; exact hri) _
                              obtain ⟨xa, hxa⟩ : ∃ xa, xa = gB (gR S r) y := ⟨_, rfl⟩
                              obtain ⟨xb, hxb⟩ : ∃ xb, xb = gB P y := ⟨_, rfl⟩
                              have z2 := ht.at_ hri hyk
                              rw [hrow, blend_get HML6.out (by rw [HRW.out]; exact hyk), ← hxa] at z2
                              have z4 := ht.at_ hnpi hyk
                              rw [gR_set_ne HRT.out, HPT.out, ← hxb] at z4
                              have z5 := ht.frozen hri y
                              have HR : Hid (TJ w gO cap i k ((clr S np cc r).set r (blend (muladd (gR S r) P g) (gR S r) (y + 1))) (.slice A6 np c6) np (wr.setCell ⟨G4 r, y, none⟩ (B (xa ^^^ mul g xb))).drew) := Lib.hid (TJ.put ht hb hown hri y (xa ^^^ mul g xb) (by
                                have e : xa ^^^ mul g xb = gB (muladd (gR S r) P g) y := by rw [gB_muladd (by rw [HRW.out, HPW.out]) (by rw [HPW.out]; exact hyk), ← hxa, ← hxb, xor_comm]
                                rw [hrow, List.set_set, e, blend_set HML6.out (by rw [HRW.out]; exact hyk)]))
                              clear ht hb hown hJ7 hrow hxa hxb HJ6
                              go_wp2_with fail
                              refine Text.wp_region_text (fun _ => True) [(0, 4), (1, 4), (2, 4), (4, 4), (5, 4), (6, 4), (7, 4), (9, 4), (12, 4), (13, 4), (14, 4), (15, 4), (17, 4), (3, 1), (8, 1), (10, 4), (11, 1), (16, 1), (18, 4), (19, 1), (20, 1), (21, 4), (22, 4), (23, 2)] (by kernel_rfl) (by kernel_rfl) (fun _ _ _ _ _ h => h) (trivial) ?_
                              iterate 13 (refine Text.purek rfl rfl (fun K hK => ⟨_, fun w' => by go_simp <;> rfl, ?_⟩); go_simp; refine hK _ ?_; clear hK K)
                              iterate 2 (refine Text.readk rfl rfl (fun K hK => ⟨_, by go_simp <;> rfl, ?_⟩); go_simp; refine hK _ ?_; clear hK K)
                              (refine Text.purek rfl rfl (fun K hK => ⟨_, fun w' => by go_simp <;> rfl, ?_⟩); go_simp; refine hK _ ?_; clear hK K)
                              iterate 2 (refine Text.readk rfl rfl (fun K hK => ⟨_, by go_simp <;> rfl, ?_⟩); go_simp; refine hK _ ?_; clear hK K)
                              (refine Text.purek rfl rfl (fun K hK => ⟨_, fun w' => by go_simp <;> rfl, ?_⟩); go_simp; refine hK _ ?_; clear hK K)
                              (refine Text.readk rfl rfl (fun K hK => ⟨_, by go_simp <;> rfl, ?_⟩); go_simp; refine hK _ ?_; clear hK K)
                              refine Text.quietk rfl rfl (fun K hK => ?_)
                              refine ⟨_, _, _, by go_simp <;> rfl, rmul_any g xb _, ?_⟩
                              go_simp
                              refine hK _ ?_
                              clear hK K
                              iterate 2 (refine Text.purek rfl rfl (fun K hK => ⟨_, fun w' => by go_simp <;> rfl, ?_⟩); go_simp; refine hK _ ?_; clear hK K)
                              refine Text.eff rfl rfl (fun K hK => ?_)
                              go_simp
                              refine hK _ _ trivial ?_
                              clear hK K
                              refine Text.done ?_
                              go_wp2_with fail
                              go_roundw
                              case rel => exact ⟨y + 1, by omega, by go_num, HR⟩
                              case measure => simp [intOf]; omega
                            · obtain rfl : y = k := by omega
                              have HR : Hid (TJ w gO cap i y (clr S np cc (r + 1)) (.slice A6 np c6) np wr) := Lib.hid (by
                                rw [← HEND.out]
                                have := hJ7.out
                                rwa [blend_all HML6.out (by rw [HRW.out]; exact Nat.le_refl _)] at this)
                              clear ht hb hown hJ7 HJ6
                              go_wp2_with fail
                              go_roundw
                              case rel => exact ⟨r + 1, by omega, by go_num, HR⟩
                              case measure => simp [intOf]; omega
                      · obtain rfl : r = i := by omega
                        obtain ⟨G3, xs3, ht, hb, hown⟩ := hJ.out
                        have hbA : Below wr.heap.size wr (wr.alloc (.cells #[.int .i64 (cc : Int)] 3)) := (Below.refl _ _).alloc (Nat.le_refl _) _
                        have HOA := Lib.hid (Kp.own (S := fun _ => False) (Kp.of_below hbA) hown (fun _ _ => id))
                        have HTA := Lib.hid (ht.kept hbA)
                        have HBA := Lib.hid (below_then hb hbA)
                        clear ht hb hown hJ HJ1 hbA
                        go_wp2_with (first
                          | (at_builtin; refine wpList_app1 _ rfl (.tmp 161) (.tmp 163) 37 3 (.int .i64 0) 8 Try.underlying37 infoInt rfl rfl w.heap.size _ np xs3 rfl HOA.out wr.heap.size 1 3 (.int .i64 (cc : Int)) rfl (Blk.new wr _ _) rfl (by omega) (by omega) HBA.out.size ?_; intro v8 w8 hp8))
                        have HR : Hid (RdI w gO cap r k m (cc + 1) v8 w8) := by
                          have hK8 : Kp (fun b => (Value.slice A6 np c6).ownBlock = some b) (wr.alloc (.cells #[.int .i64 (cc : Int)] 3)) w8 := (Kp.refl _ _).grown hp8.2.1 (fun _ e => .inl e)
                          obtain ⟨cur, hB0, h9⟩ := HTA.out.outer
                          refine Lib.hid ⟨⟨⟨G3, ?_⟩, HBA.out.grown hp8.2.1 HBA.out.size (fun b hb' => own_base HOA.out b hb')⟩, _, by rw [HNXT.out]; exact hp8.1⟩
                          rw [HNXT.out]
                          exact ⟨HTA.out.len, HTA.out.rect, ⟨cur, hK8.blk hB0 (own_ne (e := 3) HOA.out hB0 (by decide)), h9⟩, fun a ha => hK8.blk (HTA.out.rows a ha) (own_ne (e := 3) HOA.out (HTA.out.rows a ha) (by decide)), HTA.out.inj, HTA.out.far, HTA.out.old⟩
                        clear hp8
                        go_roundw
                        case rel => exact ⟨cc + 1, by omega, by go_num, HR⟩
                        case measure => simp [intOf]; omega
            · obtain rfl : p = i := by omega
              have HPV : Hid (pvF M np cc = none) := Lib.hid (pvF_none (fun j h1 h2 => hz.out j h1 (by rw [HML.out] at h2; exact h2)))
              have HR : Hid (RdI w gO cap p W m (cc + 1) (.slice A6 np c6) wr) := Lib.hid (by
                unfold RdI
                rw [HNX.out, redS_none HPV.out]
                exact ⟨⟨⟨G, HT.out⟩, HB.out⟩, xs, HOW.out⟩)
              have q1 : ((p : Int) == (p : Int)) = true := by simp
              clear hz HNX
              go_wp2_with fail
              go_roundw
              case rel => exact ⟨cc + 1, by omega, by go_num, HR⟩
              case measure => simp [intOf]; omega
        · obtain rfl : cc = W := by omega
          have HC := Lib.hid (cols_any A i c m cc wr (HM.out.kept hI.out.1.2) HRC.out hn)
          have HR := Lib.hid hI.out.1
          clear hI HI0
          go_wp2_with fail
          refine HC.out.mono ?_
          rintro e w' ⟨rfl, rfl⟩
          go_wp2_with fail
          go_ret2
          exact ⟨gO, cap, _, rfl, HR.out⟩
end Go.Proofs.Ytoeeklkebcgmaaa
/- Contracts of the references kinkeepref08: Indices, Given, and of kinkeeplaw08.given. -/
namespace Go.Proofs.Ytoeeklkebcgmaaa
open Go.RowKit Gf

theorem idxOk_lo {t : Int} {z : List Int} {k : Nat} (h : gI z k < 0) : idxOk t z k = false := by
  have : decide (0 ≤ gI z k) = false := by simp; omega
  simp only [idxOk, this, Bool.false_and]
theorem idxOk_hi {t : Int} {z : List Int} {k : Nat} (h : t ≤ gI z k) : idxOk t z k = false := by
  have : decide (gI z k < t) = false := by simp; omega
  simp only [idxOk, this, Bool.false_and, Bool.and_false]
theorem idxOk_dup {t : Int} {z : List Int} {k j : Nat} (hj : j < k) (h : gI z j = gI z k) : idxOk t z k = false := by
  have : ((List.range k).any fun j => gI z j == gI z k) = true := List.any_eq_true.2 ⟨j, List.mem_range.2 hj, by simp [h]⟩
  simp only [idxOk, this, Bool.not_true, Bool.and_false]
theorem idxOk_true {t : Int} {z : List Int} {k : Nat} (h1 : 0 ≤ gI z k) (h2 : gI z k < t) (h3 : ∀ j, j < k → gI z j ≠ gI z k) : idxOk t z k = true := by
  have e1 : decide (0 ≤ gI z k) = true := by simpa using h1
  have e2 : decide (gI z k < t) = true := by simpa using h2
  have e3 : ((List.range k).any fun j => gI z j == gI z k) = false := by
    rw [Bool.eq_false_iff]; intro h
    obtain ⟨j, hj, he⟩ := List.any_eq_true.1 h
    exact h3 j (List.mem_range.1 hj) (by simpa using he)
  simp only [idxOk, e1, e2, e3]; rfl

set_option maxRecDepth 100000 in
set_option maxHeartbeats 1000000 in
theorem indices_any (t : Int) (A : Option Addr) (n c : Nat) (z : List Int) (w : World) (h : IS w A n c z) :
    Calls Try.prog 30 #[.int .i64 t, .slice A n c] w fun e w' => e = .returned (.bool (idxB t z)) ∧ Below w.heap.size w w' := by
  have HL := Lib.hid h.1
  have HZ := Lib.hid h
  have hnl := h.len_le
  clear h
  go_enter Try.func30, Try.ntmps30
  go_wp2_with fail
  go_loopw [5] (fun x wr => ∃ k : Nat, k ≤ n ∧ x = .int .i64 (k : Int) ∧ Hid (∀ j, j < k → idxOk t z j = true) ∧ Hid (Below w.heap.size w wr)) (fun x _ => n - (intOf x).toNat)
  case atStart => exact ⟨0, by omega, rfl, Lib.hid (fun j hj => absurd hj (by omega)), Lib.hid (Below.refl _ _)⟩
  case round =>
    obtain ⟨k, hk, rfl, hall, hb⟩ := hrel
    by_cases hlt : k < n
    · obtain ⟨g, o, rfl, hc⟩ := HZ.out.at_ hb.out hlt
      obtain ⟨x, hx⟩ : ∃ x, x = gI z k := ⟨_, rfl⟩
      rw [← hx] at hc
      by_cases h0 : x < 0
      · have q1 : decide (x < 0) = true := by simpa using h0
        have HF : Hid (idxB t z = false) := Lib.hid (idxB_false (by rw [HL.out]; exact hlt) (idxOk_lo (by rw [← hx]; exact h0)))
        clear hx hall
        go_wp2_with fail
        go_ret
        exact ⟨ret_bool HF.out.symm, hb.out⟩
      · have q1 : decide (x < 0) = false := by simpa using h0
        by_cases h1 : t ≤ x
        · have q2 : decide (t ≤ x) = true := by simpa using h1
          have HF : Hid (idxB t z = false) := Lib.hid (idxB_false (by rw [HL.out]; exact hlt) (idxOk_hi (by rw [← hx]; exact h1)))
          clear hx hall
          go_wp2_with fail
          go_ret
          exact ⟨ret_bool HF.out.symm, hb.out⟩
        · have q2 : decide (t ≤ x) = false := by simpa using h1
          have HX := Lib.hid hx
          clear hx
          go_wp2_with fail
          obtain ⟨wo, rfl⟩ : ∃ wo : World, wo = wr := ⟨_, rfl⟩
          go_loopw [6] (fun y wr => ∃ q : Nat, q ≤ k ∧ y = .int .i64 (q : Int) ∧ Hid (∀ j, j < q → gI z j ≠ gI z k) ∧ Hid (Below w.heap.size w wr)) (fun y _ => k - (intOf y).toNat)
          case atStart => exact ⟨0, by omega, rfl, Lib.hid (fun j hj => absurd hj (by omega)), hb⟩
          case round =>
            obtain ⟨q, hq, rfl, hne, hb2⟩ := hrel
            by_cases hqk : q < k
            · have hqn : q < n := by omega
              obtain ⟨g2, o2, e2, hc2⟩ := HZ.out.at_ hb2.out hqn
              injection e2 with e2
              injection e2 with e21 e22
              subst e21 e22
              obtain ⟨g3, o3, e3, hc3⟩ := HZ.out.at_ hb2.out hlt
              injection e3 with e3
              injection e3 with e31 e32
              subst e31 e32
              rw [← HX.out] at hc3
              obtain ⟨y, hy⟩ : ∃ y, y = gI z q := ⟨_, rfl⟩
              rw [← hy] at hc2
              have HB3 : Hid (Below w.heap.size w wr.drew) := Lib.hid hb2.out.drew
              by_cases he : y = x
              · have q3 : (y == x) = true := by simp [he]
                have HF : Hid (idxB t z = false) := Lib.hid (idxB_false (by rw [HL.out]; exact hlt) (idxOk_dup hqk (by rw [← hy, ← HX.out]; exact he)))
                clear he hy hne hall hb hb2
                go_wp2_with fail
                refine Text.wp_region_text (fun _ => True) [(0, 4), (1, 4), (2, 4), (4, 4), (5, 4), (6, 4), (3, 1), (7, 1), (8, 4)] (by kernel_rfl) (by kernel_rfl) (fun _ _ _ _ _ h => h) (trivial) ?_
                iterate 6 (refine Text.purek rfl rfl (fun K hK => ⟨_, fun w' => by go_simp <;> rfl, ?_⟩); go_simp; refine hK _ ?_; clear hK K)
                iterate 2 (refine Text.readk rfl rfl (fun K hK => ⟨_, by go_simp <;> rfl, ?_⟩); go_simp; refine hK _ ?_; clear hK K)
                (refine Text.purek rfl rfl (fun K hK => ⟨_, fun w' => by go_simp <;> rfl, ?_⟩); go_simp; refine hK _ ?_; clear hK K)
                refine Text.done ?_
                go_wp2_with fail
                go_ret
                exact ⟨ret_bool HF.out.symm, HB3.out⟩
              · have q3 : (y == x) = false := by simp [he]
                have HN : Hid (∀ j, j < q + 1 → gI z j ≠ gI z k) := Lib.hid (fun j hj => by
                  by_cases e : j = q
                  · rw [e, ← hy, ← HX.out]; exact he
                  · exact hne.out j (by omega))
                clear he hy hne hb hb2
                go_wp2_with fail
                refine Text.wp_region_text (fun _ => True) [(0, 4), (1, 4), (2, 4), (4, 4), (5, 4), (6, 4), (3, 1), (7, 1), (8, 4)] (by kernel_rfl) (by kernel_rfl) (fun _ _ _ _ _ h => h) (trivial) ?_
                iterate 6 (refine Text.purek rfl rfl (fun K hK => ⟨_, fun w' => by go_simp <;> rfl, ?_⟩); go_simp; refine hK _ ?_; clear hK K)
                iterate 2 (refine Text.readk rfl rfl (fun K hK => ⟨_, by go_simp <;> rfl, ?_⟩); go_simp; refine hK _ ?_; clear hK K)
                (refine Text.purek rfl rfl (fun K hK => ⟨_, fun w' => by go_simp <;> rfl, ?_⟩); go_simp; refine hK _ ?_; clear hK K)
                refine Text.done ?_
                go_wp2_with fail
                go_roundw
                case rel => exact ⟨q + 1, by omega, by go_num, HN, HB3⟩
                case measure => simp [intOf]; omega
            · obtain rfl : q = k := by omega
              have HA : Hid (∀ j, j < q + 1 → idxOk t z j = true) := Lib.hid (fun j hj => by
                by_cases e : j = q
                · subst e; exact idxOk_true (by rw [← HX.out]; omega) (by rw [← HX.out]; omega) hne.out
                · exact hall.out j (by omega))
              clear hall hne hb
              go_wp2_with fail
              go_roundw
              case rel => exact ⟨q + 1, by omega, by go_num, HA, hb2⟩
              case measure => simp [intOf]; omega
    · obtain rfl : k = n := by omega
      have HT : Hid (idxB t z = true) := Lib.hid (idxB_true (fun i hi => hall.out i (by rw [HL.out] at hi; exact hi)))
      clear hall
      go_wp2_with fail
      go_ret
      exact ⟨ret_bool HT.out.symm, hb.out⟩

def givB (t : Int) (z : List Int) (m : List (List UInt8)) : Bool := decide (z.length = m.length) && idxB t z && (decide (m.length = 0) || blkB m t)

set_option maxHeartbeats 1000000 in
theorem givenR_any (t : Int) (A A' : Option Addr) (n c n' c' : Nat) (z : List Int) (m : List (List UInt8)) (w : World) (h : IS w A n c z) (h' : MS w A' n' c' m) :
    Calls Try.prog 45 #[.int .i64 t, .slice A n c, .slice A' n' c'] w fun e w' => e = .returned (.bool (givB t z m)) ∧ Below w.heap.size w w' := by
  have HLz := Lib.hid h.1
  have HLm := Lib.hid h'.1
  have HI := Lib.hid h
  have HM := Lib.hid h'
  clear h h'
  by_cases hnn : n = n'
  · have q1 : ((n : Int) == (n' : Int)) = true := by simp [hnn]
    have HD : Hid (decide (z.length = m.length) = true) := Lib.hid (by rw [HLz.out, HLm.out]; simp [hnn])
    clear hnn
    go_enter Try.func45, Try.ntmps45
    go_wp2_with fail
    refine (indices_any t A n c z w HI.out).mono ?_
    rintro e w1 ⟨rfl, hb1⟩
    have HB1 := Lib.hid hb1
    clear hb1
    cases hx : idxB t z with
    | false =>
      have HF : Hid (givB t z m = false) := Lib.hid (by unfold givB; rw [hx]; simp)
      clear hx
      go_wp2_with fail
      go_ret
      exact ⟨ret_bool HF.out.symm, HB1.out⟩
    | true =>
      by_cases h0 : n' = 0
      · have q2 : ((n' : Int) == 0) = true := by simp [h0]
        have HF : Hid (givB t z m = true) := Lib.hid (by unfold givB; rw [hx, HD.out, HLm.out, h0]; simp)
        clear hx h0
        go_wp2_with fail
        go_ret
        exact ⟨ret_bool HF.out.symm, HB1.out⟩
      · have q2 : ((n' : Int) == 0) = false := by simp; omega
        have HF : Hid (givB t z m = blkB m t) := Lib.hid (by unfold givB; rw [hx, HD.out, HLm.out]; simp [h0])
        clear hx
        go_wp2_with fail
        refine (blocks_any A' n' c' m t w1 (HM.out.kept HB1.out)).mono ?_
        rintro e w2 ⟨rfl, hb2⟩
        have HB2 := Lib.hid (below_then HB1.out hb2)
        clear hb2
        cases hbl : blkB m t with
        | false =>
          rw [hbl] at HF
          clear hbl
          go_wp2_with fail
          go_ret
          exact ⟨ret_bool HF.out.symm, HB2.out⟩
        | true =>
          rw [hbl] at HF
          clear hbl
          go_wp2_with fail
          go_ret
          exact ⟨ret_bool HF.out.symm, HB2.out⟩
  · have q1 : ((n : Int) == (n' : Int)) = false := by simp; omega
    have HF : Hid (givB t z m = false) := Lib.hid (by unfold givB; rw [HLz.out, HLm.out]; simp [hnn])
    clear hnn
    go_enter Try.func45, Try.ntmps45
    go_wp2_with fail
    go_ret
    exact ⟨ret_bool HF.out.symm, Below.refl _ _⟩

/-- Different indices below t are at most t. -/
theorem idx_nodup {t : Int} {z : List Int} (h : idxB t z = true) : z.Nodup := by
  unfold List.Nodup
  rw [List.pairwise_iff_getElem]
  intro i j hi hj hij e
  have := (idxB_spec h j hj).2.2 i hij
  rw [gI_eq hi, gI_eq hj] at this
  exact this e
theorem idx_len {t : Int} {z : List Int} (h : idxB t z = true) : (z.length : Int) ≤ t ∨ z = [] := by
  cases hz : z with
  | nil => exact .inr rfl
  | cons a l =>
    left
    rw [← hz]
    have h0 := idxB_spec h 0 (by rw [hz]; simp)
    have hn : (z.map Int.toNat).Nodup := by
      unfold List.Nodup
      rw [List.pairwise_map]
      refine List.Pairwise.imp_of_mem (fun {a b} ha hb hab e => hab ?_) (idx_nodup h)
      obtain ⟨i, hi, rfl⟩ := List.getElem_of_mem ha
      obtain ⟨j, hj, rfl⟩ := List.getElem_of_mem hb
      have h1 := (idxB_spec h i hi).1
      have h2 := (idxB_spec h j hj).1
      rw [gI_eq hi] at h1
      rw [gI_eq hj] at h2
      omega
    have := length_le_of_subset (l2 := List.range t.toNat) hn (fun x hx => by
      obtain ⟨y, hy, rfl⟩ := List.mem_map.1 hx
      obtain ⟨i, hi, rfl⟩ := List.getElem_of_mem hy
      have h1 := idxB_spec h i hi
      rw [gI_eq hi] at h1
      exact List.mem_range.2 (by omega))
    rw [List.length_map, List.length_range] at this
    omega
theorem given_eq (d t : Int) (z : List Int) (m : List (List UInt8)) : gvE d t z m = if vldB d t && givB t z m then (if (z.length : Int) < d then 10 else 0) else 1 := by
  unfold gvE ixE givB
  cases hv : vldB d t
  · simp
  · cases hx : idxB t z
    · simp
    · by_cases hl : z.length = m.length
      · have hb : (decide (m.length = 0) || blkB m t) = oneB m := by
          unfold blkB
          by_cases h0 : m.length = 0
          · have : m = [] := List.length_eq_zero_iff.1 h0
            subst this; rfl
          · have h1 : decide ((1 : Int) ≤ (m.length : Int)) = true := by simp; omega
            have h2 : decide ((m.length : Int) ≤ t) = true := by
              rcases idx_len hx with h | h
              · simp; omega
              · rw [h] at hl; simp at hl; omega
            rw [h1, h2]; simp [h0]
        rw [hb]; simp [hl]
      · simp [hl]

set_option maxHeartbeats 1000000 in
theorem given_any (d t : Int) (A A' : Option Addr) (n c n' c' : Nat) (z : List Int) (m : List (List UInt8)) (w : World) (h : IS w A n c z) (h' : MS w A' n' c' m) :
    Calls Try.prog 21 #[.int .i64 d, .int .i64 t, .slice A n c, .slice A' n' c'] w fun e w' => e = .returned (.int .i64 (gvE d t z m)) ∧ Below w.heap.size w w' := by
  have HLz := Lib.hid h.1
  have HI := Lib.hid h
  have HM := Lib.hid h'
  have HE := Lib.hid (given_eq d t z m)
  clear h h'
  go_enter Try.func21, Try.ntmps21
  go_wp2_with fail
  refine (rvalid_any _ _ _).mono ?_
  rintro e w' ⟨rfl, rfl⟩
  cases hv : vldB d t with
  | false =>
    have HR : Hid (gvE d t z m = 1) := Lib.hid (by rw [HE.out, hv]; rfl)
    clear hv
    go_wp2_with fail
    go_ret
    exact ⟨ret_int HR.out.symm, Below.refl _ _⟩
  | true =>
    have HV := Lib.hid hv
    clear hv
    go_wp2_with fail
    refine (givenR_any t A A' n c n' c' z m w HI.out HM.out).mono ?_
    rintro e w1 ⟨rfl, hb1⟩
    have HB1 := Lib.hid hb1
    clear hb1
    cases hg : givB t z m with
    | false =>
      have HR : Hid (gvE d t z m = 1) := Lib.hid (by rw [HE.out, HV.out, hg]; rfl)
      clear hg
      go_wp2_with fail
      go_ret
      exact ⟨ret_int HR.out.symm, HB1.out⟩
    | true =>
      by_cases hnd : (n : Int) < d
      · have q1 : decide ((n : Int) < d) = true := by simpa using hnd
        have HR : Hid (gvE d t z m = 10) := Lib.hid (by rw [HE.out, HV.out, hg, HLz.out, if_pos (show (true && true) = true from rfl), if_pos hnd])
        clear hg
        go_wp2_with fail
        go_ret
        exact ⟨ret_int HR.out.symm, HB1.out⟩
      · have q1 : decide ((n : Int) < d) = false := by simpa using hnd
        have HR : Hid (gvE d t z m = 0) := Lib.hid (by rw [HE.out, HV.out, hg, HLz.out, if_pos (show (true && true) = true from rfl), if_neg hnd])
        clear hg
        go_wp2_with fail
        go_ret
        exact ⟨ret_int HR.out.symm, HB1.out⟩
end Go.Proofs.Ytoeeklkebcgmaaa
/- Contract of the reference kinkeepref08.Reconstruct. -/
namespace Go.Proofs.Ytoeeklkebcgmaaa
open Go.RowKit Gf

def wideK (d : Nat) (z : List Nat) (m : List (List UInt8)) (k : Nat) : List (List UInt8) := (List.range k).map fun i => crw d (gN z i) ++ gR m i
theorem wideK_succ (d : Nat) (z : List Nat) (m : List (List UInt8)) (k : Nat) : wideK d z m (k + 1) = wideK d z m k ++ [crw d (gN z k) ++ gR m k] := by simp [wideK, List.range_succ]
def recK (R : List (List UInt8)) (d k : Nat) : List (List UInt8) := (List.range k).map fun i => (gR R i).drop d
theorem recK_succ (R : List (List UInt8)) (d k : Nat) : recK R d (k + 1) = recK R d k ++ [(gR R k).drop d] := by simp [recK, List.range_succ]
theorem own_of_row {w : World} {base g d : Nat} {l : List UInt8} (h : Blk w g 5 (row l)) (hl : l.length = d) (hb : base ≤ g) (hd : d ≤ 140737488355328) : w.ownsRow base 5 1 (.slice (some ⟨g, 0, none⟩) d d) d (l.map B) :=
  ⟨by simp [hl], .inr ⟨g, d, row l, rfl, hb, h, Nat.le_refl _, by simp [maxLen]; omega, by rw [row_size, hl]; simp, by rw [List.take_of_length_le (by simp [row, hl])]; simp [row]⟩⟩

def RecRet (R : List (List UInt8)) (d : Nat) (w : World) (e : Ending) (w' : World) : Prop := ∃ A c, e = .returned (.slice A d c) ∧ MS w' A d c R ∧ Below w.heap.size w w'

set_option maxRecDepth 100000 in
set_option maxHeartbeats 2000000 in
theorem rrec_any (d : Nat) (A A' : Option Addr) (n c n' c' : Nat) (z : List Nat) (m : List (List UInt8)) (L : Nat) (w : World) (h : IS w A n c (ints z)) (h' : MS w A' n' c' m) (hr : Rect m L) (hL : 0 < L) (hL6 : L ≤ 65536) (hd : 1 ≤ d) (hd8 : d ≤ 8) (hdn : d ≤ n) (hdn' : d ≤ n') (hz : ∀ i, i < n → gN z i < 16) :
    Calls Try.prog 25 #[.int .i64 (d : Int), .slice A n c, .slice A' n' c'] w (RecRet (refRec d z m L) d w) := by
  have HLm := Lib.hid h'.1
  have HI := Lib.hid h
  have HM := Lib.hid h'
  have HRC := Lib.hid hr
  have HL6 := Lib.hid hL6
  have HZ := Lib.hid hz
  have hd8' : (d : Int) ≤ 8 := by omega
  clear h h' hr hL6 hz
  go_enter Try.func25, Try.ntmps25
  go_wp2_with fail
  have HO : Hid (OwnM (w.alloc (.cells #[] 22)) w.heap.size (.slice (some ⟨w.heap.size, 0, none⟩) 0 0) 0 (wideK d z m 0)) := Lib.hid ⟨rfl, [], World.ownsRow_lit w #[] 0 (Nat.le_refl _) (by simp [maxLen]) rfl, fun j hj => absurd hj (by omega)⟩
  go_loopw [7, 8] (fun v x wr => ∃ k : Nat, k ≤ d ∧ x = .int .i64 (k : Int) ∧ Hid (OwnM wr w.heap.size v k (wideK d z m k)) ∧ Hid (Below w.heap.size w wr)) (fun _ x _ => d - (intOf x).toNat)
  case atStart => exact ⟨0, by omega, rfl, HO, Lib.hid ((Below.refl _ _).alloc (Nat.le_refl _) _)⟩
  case round =>
    obtain ⟨k, hk, rfl, ho, hb⟩ := hrel
    by_cases hlt : k < d
    · have hkn : k < n := by omega
      have hkn' : k < n' := by omega
      obtain ⟨g1, o1, rfl, hc1⟩ := HI.out.nat hb.out hkn
      obtain ⟨g2, o2, A2, n2, c2, rfl, hc2, hr2⟩ := HM.out.at_ hb.out hkn'
      obtain rfl : n2 = L := by rw [← hr2.1]; exact HRC.out k (by rw [HLm.out]; exact hkn')
      have hz16 := HZ.out k hkn
      have HR2 := Lib.hid hr2
      obtain ⟨r, hrz⟩ : ∃ r, r = gN z k := ⟨_, rfl⟩
      rw [← hrz] at hc1 hz16
      have HRZ := Lib.hid hrz
      clear hr2 hrz
      go_wp2_with fail
      refine Text.wp_region_text (fun w' => w'.cell? ⟨g2, o2 + k, none⟩ = some (.slice A2 n2 c2)) [(0, 4), (1, 4), (2, 4), (3, 4), (4, 4), (7, 4), (8, 4), (9, 4), (10, 0), (5, 1), (6, 2), (11, 2), (12, 2), (13, 2), (14, 4)] (by kernel_rfl) (by kernel_rfl) (fun _ _ _ _ _ h => h) (hc2) ?_
      iterate 8 (refine Text.purek rfl rfl (fun K hK => ⟨_, fun w' => by go_simp <;> rfl, ?_⟩); go_simp; refine hK _ ?_; clear hK K)
      (refine Text.heldk rfl rfl (fun K hK => ⟨_, fun w' hw' => by go_simp <;> rfl, ?_⟩); go_simp; refine hK _ ?_; clear hK K)
      (refine Text.readk rfl rfl (fun K hK => ⟨_, by go_simp <;> rfl, ?_⟩); go_simp; refine hK _ ?_; clear hK K)
      refine Text.eff rfl rfl (fun K hK => ?_)
      go_simp
      refine (rrow_any d r wr.drew hd8 hz16).mono ?_
      rintro e w1 ⟨rfl, hk1, hb1⟩
      have hb1' : Below wr.heap.size wr w1 := below_ofDrew hb1
      have HK1 : Hid (Blk w1 wr.heap.size 5 (row (crw d r))) := Lib.hid hk1
      have HB1 := Lib.hid hb1'
      refine hK _ _ (cell_kept hb1' hc2) ?_
      clear hK K hk1 hb1 hb1'
      refine Text.eff rfl rfl (fun K hK => ?_)
      refine wp_appB w1 (.tmp 25) (.tmp 29) rfl wr.heap.size (.slice (some ⟨wr.heap.size, 0, none⟩) d d) d (crw d r) rfl (own_of_row HK1.out (crw_length _ _) (Nat.le_refl _) (by omega)) A2 n2 c2 (gR m k) rfl (HR2.out.kept HB1.out) (by have := HL6.out; omega) HB1.out.size ?_
      intro v2 w2 hp2
      have hb2 : Below wr.heap.size wr w2 := HB1.out.grown hp2.2.1 HB1.out.size (fun b hb' => by simp [Value.ownBlock] at hb'; omega)
      obtain ⟨A3, c3, rfl, hbs⟩ := BS.of_own hp2.1 (by have := HL6.out; unfold lim; omega)
      have HBS := Lib.hid hbs
      have HOWN2 := Lib.hid hp2.1
      have HB2 := Lib.hid hb2
      go_simp
      refine hK _ _ (cell_kept hb2 hc2) ?_
      clear hK K hp2 hb2 hbs HK1 HB1
      refine Text.eff rfl rfl (fun K hK => ?_)
      go_simp
      obtain ⟨wA, hwA⟩ : ∃ wA, wA = w2.alloc (.cells #[.slice A3 (d + n2) c3] 22) := ⟨_, rfl⟩
      have hbA : Below wr.heap.size wr wA := by rw [hwA]; exact HB2.out.alloc HB2.out.size _
      have hbA2 : Below w2.heap.size w2 wA := by rw [hwA]; exact (Below.refl _ _).alloc (Nat.le_refl _) _
      have HKA : Hid (Blk wA w2.heap.size 22 #[.slice A3 (d + n2) c3]) := Lib.hid (by rw [hwA]; exact Blk.new _ _ _)
      rw [← hwA]
      refine hK _ _ (cell_kept hbA hc2) ?_
      clear hK K hwA
      obtain ⟨hm, ps, hown, hps⟩ := ho.out
      have HOW := Lib.hid (Kp.own (S := fun _ => False) (Kp.of_below hbA) hown (fun _ _ => id))
      have HSA : Hid (w.heap.size ≤ wA.heap.size) := Lib.hid (Nat.le_trans hb.out.size hbA.size)
      have HBA := Lib.hid hbA
      have HBA2 := Lib.hid hbA2
      have HM' := Lib.hid hm
      have HPS := Lib.hid hps
      have HOWN := Lib.hid hown
      clear hm hps hown hbA hbA2
      refine Text.eff rfl rfl (fun K hK => ?_)
      refine wp_app1 wA (.tmp 19) (.tmp 31) 30 22 (.slice none 0 0) 24 Try.underlying30 infoBytes rfl rfl w.heap.size u7 k ps rfl HOW.out w2.heap.size 1 22 (.slice A3 (d + n2) c3) rfl HKA.out rfl (by omega) (by omega) HSA.out ?_
      intro v4 w4 hp4
      have HR : Hid (OwnM w4 w.heap.size v4 (k + 1) (wideK d z m (k + 1)) ∧ Below w.heap.size w w4) := by
        have hpl : ps.length = k := by have := HOWN.out.1; simpa using this
        have h5 := OwnM.push HSA.out HM'.out (fun j hj => by
          obtain ⟨A', k', c', p1, p2, p3, p4⟩ := HPS.out j hj
          exact ⟨A', k', c', p1, p2.kept HBA.out, p3, p4⟩) hpl (HBS.out.kept HBA2.out) (by omega) (fun g' o' e e' => by
            have h6 := HOWN.out.lt g' e'
            have h7 := own_base HOWN2.out g' (by rw [e]; rfl)
            omega) hp4
        rw [HRZ.out, ← wideK_succ] at h5
        exact Lib.hid ⟨h5, (below_thenB hb.out hb.out.size HBA.out).grown hp4.2.1 HSA.out (fun b hb' => own_base HOWN.out b hb')⟩
      have HC2 := Lib.hid (Kp.cell (S := fun b => u7.ownBlock = some b) ((Kp.refl _ _).grown hp4.2.1 (fun _ e => .inl e)) (cell_kept HBA.out hc2) (fun e' => by
        have h6 := HOWN.out.lt g2 e'
        have h7 := cell_lt (hc2)
        have h8 := hb.out.size
        obtain ⟨_, _, _, _, _, e9, h9, _⟩ := HM.out.at_ (Below.refl _ _) hkn'
        injection e9 with e9
        injection e9 with e91 e92
        have h10 := cell_lt h9
        simp only at h10
        rw [← e91] at h10
        omega))
      go_simp
      refine hK _ _ HC2.out ?_
      clear hK K hp4 HC2
      (refine Text.purek rfl rfl (fun K hK => ⟨_, fun w' => by go_simp <;> rfl, ?_⟩); go_simp; refine hK _ ?_; clear hK K)
      refine Text.done ?_
      go_wp2_with fail
      go_roundw
      case rel => exact ⟨k + 1, by omega, by go_num, Lib.hid HR.out.1, Lib.hid HR.out.2⟩
      case measure => simp [intOf]; omega
    · obtain rfl : k = d := by omega
      obtain ⟨A7, c7, rfl, hm7⟩ := ho.out.ms (by unfold lim; omega)
      have HM7 := Lib.hid hm7
      obtain ⟨W, hW⟩ : ∃ W, W = k + L := ⟨_, rfl⟩
      have HRW : Hid (Rect (wideK k z m k) W) := Lib.hid (fun i hi => by
        have hi' : i < k := by simpa [wideK] using hi
        rw [show gR (wideK k z m k) i = crw k (gN z i) ++ gR m i from wide_row (d := k) hi', List.length_append, crw_length, HRC.out i (by rw [HLm.out]; omega), hW])
      have hkW : k < W := by omega
      have hWL : W - k = L := by omega
      have HWd := Lib.hid hW
      have HWl := Lib.hid hWL
      clear hm7 ho HO hW hWL
      go_wp2_with fail
      refine (reduce_any' A7 k c7 (wideK k z m k) W wr HM7.out HRW.out (by omega) (by omega) (by omega)).mono ?_
      rintro e w3 ⟨gO, cap, v2, rfl, ⟨G, ht⟩, hb3⟩
      obtain ⟨R, hR⟩ : ∃ R, R = (red (wideK k z m k) W).1 := ⟨_, rfl⟩
      rw [← hR] at ht
      have HT := Lib.hid ht
      have HB3 := Lib.hid (below_then hb.out hb3)
      have HRE : Hid (recK R k k = refRec k z m L) := Lib.hid (by rw [hR, HWd.out]; rfl)
      clear ht hb3 hR
      go_wp2_with fail
      have HO2 : Hid (OwnM (w3.alloc (.cells #[] 22)) w3.heap.size (.slice (some ⟨w3.heap.size, 0, none⟩) 0 0) 0 (recK R k 0)) := Lib.hid ⟨rfl, [], World.ownsRow_lit w3 #[] 0 (Nat.le_refl _) (by simp [maxLen]) rfl, fun j hj => absurd hj (by omega)⟩
      go_loopw [11, 12] (fun v x wr => ∃ q : Nat, q ≤ k ∧ x = .int .i64 (q : Int) ∧ Hid (OwnM wr w3.heap.size v q (recK R k q)) ∧ Hid (Below w3.heap.size w3 wr)) (fun _ x _ => k - (intOf x).toNat)
      case atStart => exact ⟨0, by omega, rfl, HO2, Lib.hid ((Below.refl _ _).alloc (Nat.le_refl _) _)⟩
      case round =>
        obtain ⟨q, hq, rfl, ho, hb⟩ := hrel
        by_cases hqk : q < k
        · have htq := HT.out.kept hb.out
          have y1 := htq.cell hqk
          obtain ⟨hm, ps, hown, hps⟩ := ho.out
          obtain ⟨wA, hwA⟩ : ∃ wA, wA = wr.alloc (.cells #[.slice (some ⟨G q, k, none⟩) (W - k) (W - k)] 22) := ⟨_, rfl⟩
          have hbA : Below wr.heap.size wr wA := by rw [hwA]; exact (Below.refl _ _).alloc (Nat.le_refl _) _
          have HKA : Hid (Blk wA wr.heap.size 22 #[.slice (some ⟨G q, k, none⟩) (W - k) (W - k)]) := Lib.hid (by rw [hwA]; exact Blk.new _ _ _)
          have HOW := Lib.hid (Kp.own (S := fun _ => False) (Kp.of_below hbA) hown (fun _ _ => id))
          have HSA : Hid (w3.heap.size ≤ wA.heap.size) := Lib.hid (Nat.le_trans hb.out.size hbA.size)
          have HBS : Hid (BS wA (some ⟨G q, k, none⟩) (W - k) (W - k) ((gR R q).drop k)) := Lib.hid (by
            have h1 := BS.of_blk (htq.rows q hqk) (htq.rect q (by rw [htq.len]; exact hqk)) (by have := HL6.out; have := HWd.out; unfold lim; omega)
            have h2 := BS.drop (h1.kept hbA) (k := k) (by omega)
            rwa [Nat.zero_add] at h2)
          have HBK : Hid (Blk wA (G q) 5 (row (gR R q))) := Lib.hid ((htq.rows q hqk).kept hbA)
          have HBA := Lib.hid hbA
          have HM' := Lib.hid hm
          have HPS := Lib.hid hps
          have HOWN := Lib.hid hown
          have HWA := Lib.hid hwA
          clear htq hm hps hown hbA hwA HO2
          go_wp2_with (first
            | (at_builtin; rw [← HWA.out]; refine wpList_app1 wA rfl (.tmp 44) (.tmp 51) 30 22 (.slice none 0 0) 24 Try.underlying30 infoBytes rfl rfl w3.heap.size u11 q ps rfl HOW.out wr.heap.size 1 22 (.slice (some ⟨G q, k, none⟩) (W - k) (W - k)) rfl HKA.out rfl (by omega) (by omega) HSA.out ?_; intro v4 w4 hp4))
          have HR : Hid (OwnM w4 w3.heap.size v4 (q + 1) (recK R k (q + 1)) ∧ Below w3.heap.size w3 w4) := by
            have hpl : ps.length = q := by have := HOWN.out.1; simpa using this
            have h5 := OwnM.push HSA.out HM'.out (fun j hj => by
              obtain ⟨A', k', c', p1, p2, p3, p4⟩ := HPS.out j hj
              exact ⟨A', k', c', p1, p2.kept HBA.out, p3, p4⟩) hpl HBS.out (by omega) (fun g' o' e e' => by
                injection e with e
                injection e with e
                rw [← e] at e'
                exact own_ne (e := 22) HOW.out HBK.out (by decide) e') hp4
            rw [← recK_succ] at h5
            exact Lib.hid ⟨h5, (below_thenB hb.out hb.out.size HBA.out).grown hp4.2.1 HSA.out (fun b hb' => own_base HOWN.out b hb')⟩
          clear hp4
          go_roundw
          case rel => exact ⟨q + 1, by omega, by go_num, Lib.hid HR.out.1, Lib.hid HR.out.2⟩
          case measure => simp [intOf]; omega
        · obtain rfl : q = k := by omega
          obtain ⟨A8, c8, rfl, hm8⟩ := ho.out.ms (by unfold lim; omega)
          rw [HRE.out] at hm8
          have HM8 := Lib.hid hm8
          have HB8 := Lib.hid (below_then HB3.out hb.out)
          clear hm8 ho HO2
          go_wp2_with fail
          go_ret
          exact ⟨A8, c8, rfl, HM8.out, HB8.out⟩
end Go.Proofs.Ytoeeklkebcgmaaa
