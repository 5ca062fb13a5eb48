/- Contract of shamir.Fits: the coefficients that fit. -/
import Derived.Test.YtakedococfklgaaB2
import Derived.Test.YtakedococfklgaaB3
import Derived.Test.YtakedococfklgaaCo4m
namespace Go.Proofs.Ytakedococfklgaa
open Go.RowKit Gf

attribute [local go_sem] Gf.bv_toNat Gf.bv_wrap

def Rect (m : List (List UInt8)) (L : Nat) : Prop := ∀ i, i < m.length → (gR m i).length = L
section
/-- The outer block gO (capacity cap) holds n slices of W bytes; row i lies in block G i and reads as row i of m. -/
structure Tab (w : World) (base gO cap n W : Nat) (G : Nat → Nat) (m : List (List UInt8)) : Prop where
  len : m.length = n
  rect : Rect m W
  outer : ∃ cur : Array Value, Blk w gO 22 cur ∧ n ≤ cap ∧ cur.size = cap ∧ ∀ i, i < n → cur[i]? = some (.slice (some ⟨G i, 0, none⟩) W W)
  rows : ∀ i, i < n → Blk w (G i) 5 (row (gR m i))
  inj : ∀ i j, i < n → j < n → i ≠ j → G i ≠ G j
  far : ∀ i, i < n → G i ≠ gO
  old : base ≤ gO ∧ ∀ i, i < n → base ≤ G i

variable {w w' : World} {base gO cap n W : Nat} {G : Nat → Nat} {m : List (List UInt8)}
theorem Tab.cell (h : Tab w base gO cap n W G m) {i : Nat} (hi : i < n) : w.cell? ⟨gO, i, none⟩ = some (.slice (some ⟨G i, 0, none⟩) W W) := by
  obtain ⟨cur, h1, _, _, h2⟩ := h.outer
  rw [h1.cell]; exact h2 i hi
theorem Tab.outFrozen (h : Tab w base gO cap n W G m) (i : Nat) : w.frozen? ⟨gO, i, none⟩ = false := by
  obtain ⟨cur, h1, _⟩ := h.outer
  exact h1.frozen i
theorem Tab.at_ (h : Tab w base gO cap n W G m) {i k : Nat} (hi : i < n) (hk : k < W) : w.cell? ⟨G i, k, none⟩ = some (B (gB (gR m i) k)) := by
  rw [(h.rows i hi).cell]; exact row_get _ _ (by rw [h.rect i (by rw [h.len]; exact hi)]; exact hk)
theorem Tab.frozen (h : Tab w base gO cap n W G m) {i : Nat} (hi : i < n) (k : Nat) : w.frozen? ⟨G i, k, none⟩ = false := (h.rows i hi).frozen k
theorem Tab.kept (h : Tab w base gO cap n W G m) (hb : Below w.heap.size w w') : Tab w' base gO cap n W G m := by
  obtain ⟨cur, h1, h2⟩ := h.outer
  exact ⟨h.len, h.rect, ⟨cur, h1.kept hb, h2⟩, fun i hi => (h.rows i hi).kept hb, h.inj, h.far, h.old⟩
theorem Tab.drew (h : Tab w base gO cap n W G m) : Tab w.drew base gO cap n W G m := ⟨h.len, h.rect, h.outer, h.rows, h.inj, h.far, h.old⟩
theorem Tab.ms (h : Tab w base gO cap n W G m) (hn : n * 24 ≤ lim) (hW : W ≤ lim) : MS w (some ⟨gO, 0, none⟩) n cap m := by
  obtain ⟨cur, h1, h2, _, _⟩ := h.outer
  refine ⟨h.len, h2, hn, fun k hk => ⟨gO, 0, some ⟨G k, 0, none⟩, W, W, rfl, by rw [Nat.zero_add]; exact h.cell hk, BS.of_blk (h.rows k hk) (h.rect k (by rw [h.len]; exact hk)) hW⟩⟩
/-- A whole row is put. -/
theorem Tab.putRow (h : Tab w base gO cap n W G m) {i : Nat} (hi : i < n) {l : List UInt8} (hl : l.length = W) (hB : Blk w' (G i) 5 (row l)) (hk : ∀ g t cs, g ≠ G i → Blk w g t cs → Blk w' g t cs) : Tab w' base gO cap n W G (m.set i l) := by
  obtain ⟨cur, h1, h2⟩ := h.outer
  refine ⟨by simp [h.len], fun j hj => ?_, ⟨cur, hk _ _ _ (fun e => h.far i hi e.symm) h1, h2⟩, fun j hj => ?_, h.inj, h.far, h.old⟩
  · by_cases e : i = j
    · subst e; rw [gR_set_self (by rw [h.len]; exact hi)]; exact hl
    · rw [gR_set_ne e]; exact h.rect j (by simpa using hj)
  · by_cases e : i = j
    · subst e; rw [gR_set_self (by rw [h.len]; exact hi)]; exact hB
    · rw [gR_set_ne e]; exact hk _ _ _ (h.inj j i hj hi (fun e' => e e'.symm)) (h.rows j hj)
/-- One byte is put. -/
theorem Tab.put (h : Tab w base gO cap n W G m) {i : Nat} (hi : i < n) (k : Nat) (b : UInt8) : Tab (w.setCell ⟨G i, k, none⟩ (B b)) base gO cap n W G (m.set i ((gR m i).set k b)) :=
  h.putRow hi (by rw [List.length_set]; exact h.rect i (by rw [h.len]; exact hi)) (by rw [← row_set]; exact (h.rows i hi).set_ k (B b)) (fun _ _ _ hg hB => hB.far hg _)
theorem Tab.putBelow (h : Tab w base gO cap n W G m) {w0 : World} (hb : Below base w0 w) {i : Nat} (hi : i < n) (k : Nat) (v : Value) : Below base w0 (w.setCell ⟨G i, k, none⟩ v) := hb.setCell (h.old.2 i hi) v

def zmat (n W : Nat) : List (List UInt8) := List.replicate n (zeros W)
theorem zmat_get {n W i : Nat} (h : i < n) : gR (zmat n W) i = zeros W := by rw [gR_eq (by simpa [zmat] using h)]; simp [zmat]
theorem zmat_rect (n W : Nat) : Rect (zmat n W) W := fun i hi => by rw [zmat_get (by simpa [zmat] using hi), zeros_length]

def addG (G : Nat → Nat) (k g i : Nat) : Nat := if i < k then G i else g
theorem addG_lo {G : Nat → Nat} {k g i : Nat} (h : i < k) : addG G k g i = G i := if_pos h
theorem addG_hi {G : Nat → Nat} {k g i : Nat} (h : ¬ i < k) : addG G k g i = g := if_neg h
end

/-- What the first loop keeps: the elements so far, the rows so far. -/
structure FI (base gO n ns k : Nat) (cx : List UInt8) (v8 : Value) (G : Nat → Nat) (wr : World) : Prop where
  own : wr.ownsRow base 5 1 v8 (k + 1) ((0 :: cx.take k).map B)
  outer : ∃ cur : Array Value, Blk wr gO 22 cur ∧ cur.size = n ∧ (∀ i, i < k → cur[i]? = some (.slice (some ⟨G i, 0, none⟩) ns ns)) ∧ ∀ i, k ≤ i → i < n → cur[i]? = some (.slice none 0 0)
  rows : ∀ i, i < k → Blk wr (G i) 5 (row (zeros ns))
  inj : ∀ i j, i < k → j < k → i ≠ j → G i ≠ G j
  far : ∀ i, i < k → G i ≠ gO
  old : base ≤ gO ∧ ∀ i, i < k → base ≤ G i
  dis : ∀ i, i < k → v8.ownBlock ≠ some (G i)

theorem FI.kept {base gO n ns k : Nat} {cx : List UInt8} {v8 : Value} {G : Nat → Nat} {w w' : World} (h : FI base gO n ns k cx v8 G w) (hb : Below w.heap.size w w') : FI base gO n ns k cx v8 G w' := by
  obtain ⟨cur, c1, c2⟩ := h.outer
  exact ⟨Kp.own (S := fun _ => False) (Kp.of_below hb) h.own (fun _ _ => id), ⟨cur, c1.kept hb, c2⟩, fun i hi => (h.rows i hi).kept hb, h.inj, h.far, h.old, h.dis⟩

theorem FI.step {base gO n ns k : Nat} {cx : List UInt8} {v8 v' : Value} {G : Nat → Nat} {wb w6 : World} {x : UInt8} (h : FI base gO n ns k cx v8 G wb) (hk : k < n) (hx : cx.take k ++ [x] = cx.take (k + 1))
    (hp : AppPost base 5 v8 (k + 1) 1 ((0 :: cx.take k).map B ++ [B x]) v' wb w6) (hbase : base ≤ wb.heap.size) :
    FI base gO n ns (k + 1) cx v' (addG G k w6.heap.size) ((w6.alloc (.cells (row (zeros ns)) 5)).setCell ⟨gO, k, none⟩ (.slice (some ⟨w6.heap.size, 0, none⟩) ns ns)) := by
  obtain ⟨cur, c1, c2, c3, c4⟩ := h.outer
  have hK : Kp (fun b => v8.ownBlock = some b) wb w6 := (Kp.refl _ _).grown hp.2.1 (fun _ e => .inl e)
  have hgo6 : Blk w6 gO 22 cur := hK.blk c1 (own_ne (e := 5) h.own c1 (by decide))
  have hr6 : ∀ i, i < k → Blk w6 (G i) 5 (row (zeros ns)) := fun i hi => hK.blk (h.rows i hi) (h.dis i hi)
  have hgl : gO < w6.heap.size := hgo6.lt
  have hK2 : Kp (· = gO) w6 ((w6.alloc (.cells (row (zeros ns)) 5)).setCell ⟨gO, k, none⟩ (.slice (some ⟨w6.heap.size, 0, none⟩) ns ns)) := Kp.set (S := (· = gO)) ((Kp.refl _ _).alloc _) (.inl rfl) _
  have hs6 : base ≤ w6.heap.size := Nat.le_trans hbase hK.size
  refine ⟨?_, ⟨_, (hgo6.alloc _).set_ k _, by simp [c2], fun i hi => ?_, fun i h1 h2 => ?_⟩, fun i hi => ?_, fun i j hi hj hne => ?_, fun i hi => ?_, ⟨h.old.1, fun i hi => ?_⟩, fun i hi => ?_⟩
  · refine Kp.own hK2 ?_ (fun g hg e => ?_)
    · have := hp.1
      rw [← hx]
      simpa using this
    · subst e
      exact own_ne (e := 5) hp.1 hgo6 (by decide) hg
  · rw [Array.getElem?_setIfInBounds]
    by_cases e : k = i
    · subst e; rw [if_pos rfl, if_pos (by omega), addG_hi (by omega)]
    · rw [if_neg e, addG_lo (by omega)]; exact c3 i (by omega)
  · rw [Array.getElem?_setIfInBounds, if_neg (by omega)]; exact c4 i (by omega) h2
  · by_cases e : i < k
    · rw [addG_lo e]; exact ((hr6 i e).alloc _).far (h.far i e) _
    · rw [addG_hi e]; exact (Blk.new w6 _ _).far (by show w6.heap.size ≠ gO; omega) _
  · by_cases e1 : i < k <;> by_cases e2 : j < k
    · rw [addG_lo e1, addG_lo e2]; exact h.inj i j e1 e2 hne
    · rw [addG_lo e1, addG_hi e2]; have := (hr6 i e1).lt; omega
    · rw [addG_hi e1, addG_lo e2]; have := (hr6 j e2).lt; omega
    · omega
  · by_cases e : i < k
    · rw [addG_lo e]; exact h.far i e
    · rw [addG_hi e]; omega
  · by_cases e : i < k
    · rw [addG_lo e]; exact h.old.2 i e
    · rw [addG_hi e]; exact hs6
  · by_cases e : i < k
    · rw [addG_lo e]
      intro e'
      rcases hp.2.2 with h1 | h1
      · exact h.dis i e (h1.symm.trans e')
      · rw [h1] at e'
        injection e' with e'
        have := (h.rows i e).lt
        omega
    · rw [addG_hi e]
      intro e'
      have := (hp.1.lt _ e').2
      omega

/-- The points of byte b. -/
def fiX (l : List (Int × List UInt8)) : List UInt8 := 0 :: coX l
def fiY (s : List UInt8) (l : List (Int × List UInt8)) (b : Nat) : List UInt8 := gB s b :: coY l b
def fiP (s : List UInt8) (l : List (Int × List UInt8)) (b : Nat) : List UInt8 := Py.itP (fiX l) (fiY s l b)
/-- The coefficients when b bytes are done, and of byte b those below i. -/
def fiT (s : List UInt8) (l : List (Int × List UInt8)) (b i : Nat) : List (List UInt8) :=
  (List.range l.length).map fun r => tab s.length fun j => if j < b then gB (fiP s l j) (r + 1) else if j = b ∧ r + 1 < i then gB (fiP s l b) (r + 1) else 0
/-- The coefficients that fit. -/
def fiM (s : List UInt8) (l : List (Int × List UInt8)) : List (List UInt8) := (List.range l.length).map fun r => tab s.length fun j => gB (fiP s l j) (r + 1)
theorem fiT_length (s : List UInt8) (l : List (Int × List UInt8)) (b i : Nat) : (fiT s l b i).length = l.length := by simp [fiT]
theorem fiT_get (s : List UInt8) (l : List (Int × List UInt8)) (b i r : Nat) (h : r < l.length) : gR (fiT s l b i) r = tab s.length fun j => if j < b then gB (fiP s l j) (r + 1) else if j = b ∧ r + 1 < i then gB (fiP s l b) (r + 1) else 0 := by
  rw [gR_eq (by rw [fiT_length]; exact h)]; simp [fiT]
theorem gR_ext {a b : List (List UInt8)} (hl : a.length = b.length) (h : ∀ k, k < a.length → gR a k = gR b k) : a = b := by
  apply List.ext_getElem hl
  intro i h1 h2
  have := h i h1
  rwa [gR_eq h1, gR_eq h2] at this
theorem fiT_start (s : List UInt8) (l : List (Int × List UInt8)) : zmat l.length s.length = fiT s l 0 1 :=
  gR_ext (by rw [fiT_length]; simp [zmat]) (fun r hr => by
    have hr' : r < l.length := by simpa [zmat] using hr
    rw [zmat_get hr', fiT_get _ _ _ _ _ hr']
    refine gB_ext (by rw [zeros_length, tab_length]) (fun j hj => ?_)
    rw [zeros_length] at hj
    rw [gB_zeros, gB_tab _ hj, if_neg (by omega), if_neg (by omega)])
theorem fiT_put (s : List UInt8) (l : List (Int × List UInt8)) (b r : Nat) (hr : r < l.length) (hb : b < s.length) : (fiT s l b (r + 1)).set r ((gR (fiT s l b (r + 1)) r).set b (gB (fiP s l b) (r + 1))) = fiT s l b (r + 2) :=
  gR_ext (by rw [List.length_set, fiT_length, fiT_length]) (fun q hq => by
    rw [List.length_set, fiT_length] at hq
    by_cases e : r = q
    · subst e
      rw [gR_set_self (by rw [fiT_length]; exact hr), fiT_get _ _ _ _ _ hr, fiT_get _ _ _ _ _ hr]
      refine gB_ext (by rw [List.length_set, tab_length, tab_length]) (fun j hj => ?_)
      rw [List.length_set, tab_length] at hj
      rw [gB_set _ (by rw [tab_length]; exact hb), gB_tab _ hj, gB_tab _ hj]
      by_cases ej : j = b
      · subst ej; rw [if_pos rfl, if_neg (by omega), if_pos ⟨rfl, by omega⟩]
      · rw [if_neg ej]
        by_cases hjb : j < b
        · rw [if_pos hjb, if_pos hjb]
        · rw [if_neg hjb, if_neg hjb, if_neg (by omega), if_neg (by omega)]
    · rw [gR_set_ne e, fiT_get _ _ _ _ _ hq, fiT_get _ _ _ _ _ hq]
      refine tab_congr fun j _ => ?_
      by_cases hjb : j < b
      · rw [if_pos hjb, if_pos hjb]
      · rw [if_neg hjb, if_neg hjb]
        by_cases h1 : j = b ∧ q + 1 < r + 1
        · rw [if_pos h1, if_pos ⟨h1.1, by omega⟩]
        · rw [if_neg h1, if_neg (by omega)])
theorem fiT_next (s : List UInt8) (l : List (Int × List UInt8)) (b i : Nat) (hi : (fiP s l b).length ≤ i) : fiT s l b i = fiT s l (b + 1) 1 :=
  gR_ext (by rw [fiT_length, fiT_length]) (fun r hr => by
    rw [fiT_length] at hr
    rw [fiT_get _ _ _ _ _ hr, fiT_get _ _ _ _ _ hr]
    refine tab_congr fun j _ => ?_
    by_cases hjb : j < b
    · rw [if_pos hjb, if_pos (by omega)]
    · rw [if_neg hjb]
      by_cases e : j = b
      · subst e
        rw [if_pos (show j < j + 1 by omega)]
        by_cases h1 : r + 1 < i
        · rw [if_pos ⟨rfl, h1⟩]
        · rw [if_neg (by omega), gB_ge (by omega)]
      · rw [if_neg (by omega), if_neg (by omega), if_neg (by omega)])
theorem fiT_end (s : List UInt8) (l : List (Int × List UInt8)) : fiT s l s.length 1 = fiM s l := by
  unfold fiT fiM
  apply List.map_congr_left
  intro r _
  exact tab_congr fun j hj => by rw [if_pos hj]
theorem fiP_len (s : List UInt8) (l : List (Int × List UInt8)) (b : Nat) : (fiP s l b).length ≤ l.length + 1 := by
  rw [fiP, Py.itP, Py.trim_length]
  have h1 := Py.tl_le (Py.itK (fiX l) (fiY s l b) (fiX l).length).1
  rw [Py.itK_length1] at h1
  have h2 : (fiX l).length = l.length + 1 := by simp [fiX, coX, tab_length]
  omega
theorem fiX_dst {l : List (Int × List UInt8)} (hX : ∀ k, k < l.length → 1 ≤ (gS l k).1 ∧ (gS l k).1 ≤ 255) (hd : ∀ i j, j < i → i < l.length → (gS l j).1 ≠ (gS l i).1) : Py.Dst (fiX l) := by
  intro i j hij hj
  obtain ⟨j, rfl⟩ : ∃ q, j = q + 1 := ⟨j - 1, by omega⟩
  have hjl : j < l.length := by simp [fiX, coX, tab_length] at hj; omega
  cases i with
  | zero =>
    rw [fiX, gB_cons_zero, gB_cons_succ, coX, gB_tab _ hjl]
    intro e
    have h1 := hX j hjl
    have h2 := gX_eq (l := l) (k := j) (by omega) (by omega)
    rw [← e] at h2
    have h3 : bv 0 = 0 := rfl
    omega
  | succ i =>
    rw [fiX, gB_cons_succ, gB_cons_succ]
    exact coX_dst hX hd i j (by omega) (by rw [coX, tab_length]; exact hjl)

def FitRet (m : List (List UInt8)) (ns : Nat) (w : World) (e : Ending) (w' : World) : Prop := ∃ (gO : Nat) (G : Nat → Nat), e = .returned (.tuple #[.slice (some ⟨gO, 0, none⟩) m.length m.length, .int .i64 0]) ∧ Tab w' w.heap.size gO m.length m.length ns G m ∧ Below w.heap.size w w'
end Go.Proofs.Ytakedococfklgaa
