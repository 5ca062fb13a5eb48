/- Several texts in one: Sort, Rs14, Ctx, Loc0, LocA, Loc1. -/
import Derived.Test.YtoeeklkebcgmaaaA2
import Derived.Test.YtoeeklkebcgmaaaShelf
import Derived.Sort.OwnSortedInts
/- slices.Sort of a row of ints that the call made. -/
namespace Go.Proofs.Ytoeeklkebcgmaaa
open Go.RowKit Gf Go.Sort
/-- The sorted list. -/
def isort (z : List Int) : List Int := z.mergeSort fun x y => decide (x ≤ y)
theorem isort_length (z : List Int) : (isort z).length = z.length := by simp [isort]

def SortRet (base : Nat) (v : Value) (n : Nat) (z : List Int) (w : World) (e : Ending) (w' : World) : Prop :=
  e = .returned (.tuple #[]) ∧ w'.ownsRow base 3 1 v n ((isort z).map (Value.int .i64)) ∧ w.grownBy w' v.ownBlock

theorem sort_own (base : Nat) (v : Value) (n : Nat) (z : List Int) (w : World) (h : w.ownsRow base 3 1 v n (z.map (Value.int .i64))) (hn : n < 4611686018427387904) :
    Calls Try.prog 62 #[v] w (SortRet base v n z w) := by
  have hl := h.1
  simp only [List.length_map, Nat.mul_one] at hl
  rcases h.2 with ⟨rfl, h0⟩ | ⟨g, cap, cur, rfl, hbase, hb, h1, h2, h3, h4⟩
  · refine (Try.slices_Sort_int_none none 0 w).mono ?_
    rintro e w' ⟨rfl, rfl⟩
    have hz : z = [] := List.length_eq_zero_iff.1 (by omega)
    subst hz
    refine ⟨rfl, ?_, ?_⟩
    · simpa [isort] using h
    · exact ⟨rfl, rfl, rfl, Nat.le_refl _, fun _ _ _ => rfl⟩
  · subst hl
    refine (Try.slices_Sort_int g 0 cap z w (holds_of_blockI hb (by simpa using h4)) (Array.getElem?_eq_some_iff.1 hb).1 hn).mono ?_
    rintro e w' ⟨rfl, nn, os, rfl⟩
    exact ⟨rfl, ownsRow_sortedI (isort_length z) hbase hb h1 h2 h3, grownBy_sortedI _⟩
end Go.Proofs.Ytoeeklkebcgmaaa
/- Contracts of package reedsolomon: differing. -/
namespace Go.Proofs.Ytoeeklkebcgmaaa
open Go.RowKit Gf

attribute [local go_sem] Gf.xor_bits Gf.and_bits Gf.or_bits Gf.ne_zero_iff Gf.eq_zero_iff Gf.eq_one_iff Gf.beq_bytes Gf.bne_bytes Gf.bv_toNat

/-- The indices of those of the first j other pieces that are not the sums. -/
def difs (m F : List (List UInt8)) (o : List Nat) (op : List (List UInt8)) (L : Nat) : Nat → List Nat
  | 0 => []
  | j + 1 => if prd m (gR F j) L = gR op j then difs m F o op L j else difs m F o op L j ++ [gN o j]
theorem difs_length (m F : List (List UInt8)) (o : List Nat) (op : List (List UInt8)) (L : Nat) : ∀ j, (difs m F o op L j).length ≤ j
  | 0 => by simp [difs]
  | j + 1 => by
    have := difs_length m F o op L j
    simp only [difs]
    split
    · omega
    · simp; omega
theorem ints_append (z : List Nat) (i : Nat) : ints (z ++ [i]) = ints z ++ [(i : Int)] := by simp [ints]
theorem ints_map_append (z : List Nat) (i : Nat) : (ints (z ++ [i])).map (Value.int .i64) = (ints z).map (Value.int .i64) ++ [.int .i64 (i : Int)] := by rw [ints_append, List.map_append]; rfl

set_option maxHeartbeats 4000000 in
theorem differing_any (A A' Ao Ap : Option Addr) (n c k c' co cp : Nat) (m F : List (List UInt8)) (o : List Nat) (op : List (List UInt8)) (d L : Nat) (w : World) (h : MS w A n c m) (h' : MS w A' k c' F) (ho : IS w Ao k co (ints o)) (hp : MS w Ap k cp op)
    (hr : Rect m L) (hL : L ≤ 65536) (hF : Rect F d) (hd : 0 < d) (hd8 : d ≤ 64) (hdn : d ≤ n) (hk64 : k ≤ 64) :
    Calls Try.prog 44 #[.slice A n c, .slice A' k c', .slice Ao k co, .slice Ap k cp] w fun e w' => ∃ v q, e = .returned v ∧ q = (difs m F o op L k).length ∧ w'.ownsRow w.heap.size 3 1 v q ((isort (ints (difs m F o op L k))).map (Value.int .i64)) ∧ Below w.heap.size w w' := by
  have HLF := Lib.hid h'.1
  have HM := Lib.hid h
  have HF' := Lib.hid h'
  have HO := Lib.hid ho
  have HP := Lib.hid hp
  clear h h' ho hp
  go_enter Try.func44, Try.ntmps44
  go_wp2_with fail
  go_loopw [9, 14] (fun v i wr => ∃ j : Nat, ∃ q : Nat, j ≤ k ∧ i = .int .i64 (j : Int) ∧ q ≤ j ∧ Hid (q = (difs m F o op L j).length) ∧ Hid (wr.ownsRow w.heap.size 3 1 v q ((ints (difs m F o op L j)).map (Value.int .i64))) ∧ Hid (Below w.heap.size w wr)) (fun _ i _ => k - (intOf i).toNat)
  case atStart => exact ⟨0, 0, by omega, rfl, by omega, Lib.hid rfl, Lib.hid (World.ownsRow_nil _ _ _ _), Lib.hid (Below.refl _ _)⟩
  case round =>
    obtain ⟨j, q, hj, rfl, hqj, hq, hown, hb⟩ := hrel
    by_cases hlt : j < k
    · obtain ⟨g, o1, A1, n1, c1, rfl, hc1, hr1⟩ := HF'.out.at_ hb.out hlt
      obtain rfl : n1 = d := by rw [← hr1.1]; exact hF j (by rw [HLF.out]; exact hlt)
      obtain ⟨g2, o2, A2, n2, c2, rfl, hc2, hr2⟩ := HP.out.at_ hb.out hlt
      obtain ⟨g3, o3, rfl, hc3⟩ := HO.out.nat hb.out hlt
      have HR1 := Lib.hid hr1
      have HR2 := Lib.hid hr2
      clear hr1 hr2
      go_wp2_with fail
      refine Text.wp_region_text (fun w' => w'.cell? ⟨g2, o2 + j, none⟩ = some (.slice A2 n2 c2)) [(0, 4), (1, 4), (3, 4), (4, 4), (5, 4), (6, 0), (2, 2), (7, 2), (8, 4)] (by kernel_rfl) (by kernel_rfl) (fun _ _ _ _ _ h => h) (hc2) ?_
      iterate 5 (refine Text.purek rfl rfl (fun K hK => ⟨_, fun w' => by go_simp <;> rfl, ?_⟩); go_simp; refine hK _ ?_; clear hK K)
      (refine Text.heldk rfl rfl (fun K hK => ⟨_, fun w' hw' => by go_simp <;> rfl, ?_⟩); go_simp; refine hK _ ?_; clear hK K)
      refine Text.eff rfl rfl (fun K hK => ?_)
      go_simp
      refine (predict_any _ A1 n c n1 c1 m (gR F j) L wr.drew (HM.out.kept (hb.out)).drew HR1.out.drew hr hL hd hd8 (by omega)).mono ?_
      rintro e w4 ⟨v4, rfl, A5, n5, c5, rfl, hbs5, hb5⟩
      have hb5' : Below wr.heap.size wr w4 := below_ofDrew hb5
      refine hK _ _ (cell_kept hb5' hc2) ?_
      have HB4 : Hid (Below w.heap.size w w4) := Lib.hid (below_then hb.out hb5')
      have HOW4 := Lib.hid (Kp.own (S := fun _ => False) (Kp.of_below hb5') hown.out (fun _ _ => id))
      have HS := Lib.hid hbs5
      have HP2 : Hid (BS w4 A2 n2 c2 (gR op j)) := Lib.hid (HR2.out.kept hb5')
      have hc3' := cell_kept hb5' hc3
      have hc2' := cell_kept hb5' hc2
      have HSZ : Hid (w.heap.size ≤ wr.heap.size) := Lib.hid hb.out.size
      clear hK K hb5 hb5' hbs5 HR1 HR2 hb hc1 hc2 hc3 hown
      refine Text.eff rfl rfl (fun K hK => ?_)
      go_simp
      refine (equal_any A5 A2 n5 c5 n2 c2 _ _ w4 HS.out HP2.out).mono ?_
      rintro e w5 ⟨rfl, rfl⟩
      refine hK _ _ hc2' ?_
      clear hK K HS HP2
      by_cases he : prd m (gR F j) L = gR op j
      · have hde : decide (prd m (gR F j) L = gR op j) = true := by simp [he]
        have HD : Hid (difs m F o op L (j + 1) = difs m F o op L j) := Lib.hid (by rw [difs, if_pos he])
        have HDE := Lib.hid hde
        clear he hde
        rw [HDE.out]
        (refine Text.purek rfl rfl (fun K hK => ⟨_, fun w' => by go_simp <;> rfl, ?_⟩); go_simp; refine hK _ ?_; clear hK K)
        refine Text.done ?_
        clear hc2' hc3'
        go_wp2_with fail
        go_roundw
        case rel => exact ⟨j + 1, q, by omega, by go_num, by omega, Lib.hid (by rw [HD.out]; exact hq.out), Lib.hid (by rw [HD.out]; exact HOW4.out), HB4⟩
        case measure => simp [intOf]; omega
      · have hde : decide (prd m (gR F j) L = gR op j) = false := by simp [he]
        have HD : Hid (difs m F o op L (j + 1) = difs m F o op L j ++ [gN o j]) := Lib.hid (by rw [difs, if_neg he])
        have HDE := Lib.hid hde
        clear he hde
        rw [HDE.out]
        (refine Text.purek rfl rfl (fun K hK => ⟨_, fun w' => by go_simp <;> rfl, ?_⟩); go_simp; refine hK _ ?_; clear hK K)
        refine Text.done ?_
        clear hc2'
        have hbA : Below w4.heap.size w4 (w4.alloc (.cells #[.int .i64 (gN o j : Int)] 3)) := (Below.refl _ _).alloc (Nat.le_refl _) _
        have HOW := Lib.hid (Kp.own (S := fun _ => False) (Kp.of_below hbA) HOW4.out (fun _ _ => id))
        have HBA := Lib.hid hbA
        have HSZ4 : Hid (w.heap.size ≤ w4.heap.size) := Lib.hid HB4.out.size
        clear hbA
        go_wp2_with (first
          | (at_builtin; refine wpList_app1 _ rfl (.tmp 28) (.tmp 33) 37 3 (.int .i64 0) 8 Try.underlying37 infoInt rfl rfl w.heap.size _ q ((ints (difs m F o op L j)).map (Value.int .i64)) rfl HOW.out w4.heap.size 1 3 (.int .i64 (gN o j : Int)) rfl (Blk.new w4 _ _) rfl (by omega) (by omega) (Nat.le_trans HSZ4.out HBA.out.size) ?_; intro v4 w6 hp4))
        have HR : Hid (w6.ownsRow w.heap.size 3 1 v4 (q + 1) ((ints (difs m F o op L (j + 1))).map (Value.int .i64)) ∧ Below w.heap.size w w6) := by
          refine Lib.hid ⟨?_, (below_thenB HB4.out HSZ4.out HBA.out).grown hp4.2.1 (Nat.le_trans HSZ4.out HBA.out.size) (fun b hb' => own_base HOW4.out b hb')⟩
          rw [HD.out, ints_map_append]
          exact hp4.1
        have HQ : Hid (q + 1 = (difs m F o op L (j + 1)).length) := Lib.hid (by rw [HD.out, List.length_append, ← hq.out]; rfl)
        clear hp4
        go_roundw
        case rel => exact ⟨j + 1, q + 1, by omega, by go_num, by omega, HQ, Lib.hid HR.out.1, Lib.hid HR.out.2⟩
        case measure => simp [intOf]; omega
    · obtain rfl : j = k := by omega
      go_wp2_with fail
      refine (sort_own w.heap.size u9 q _ wr hown.out (by omega)).mono ?_
      rintro e w4 ⟨rfl, hs4, hg4⟩
      have HB4 : Hid (Below w.heap.size w w4) := Lib.hid (hb.out.grown hg4 hb.out.size (fun b hb' => own_base hown.out b hb'))
      have HS4 := Lib.hid hs4
      clear hs4 hg4
      go_wp2_with fail
      go_ret
      exact ⟨u9, q, rfl, hq.out, HS4.out, HB4.out⟩
end Go.Proofs.Ytoeeklkebcgmaaa
/- Rows that a call owns, several at once, in blocks of their own. -/
namespace Go.Proofs.Ytoeeklkebcgmaaa
open Go.RowKit Gf

/-- A row: its elements' type, its slice, its length, its values. -/
structure ORow where
  e : TypeId
  v : Value
  n : Nat
  xs : List Value
def nilRow (e : TypeId) : ORow := ⟨e, .slice none 0 0, 0, []⟩

/-- The rows 0 .. k - 1 are owned and lie in different blocks. -/
structure Ctx (base k : Nat) (w : World) (r : Nat → ORow) : Prop where
  own : ∀ i, i < k → w.ownsRow base (r i).e 1 (r i).v (r i).n (r i).xs
  dis : ∀ i j, i < k → j < k → i ≠ j → ∀ g, (r i).v.ownBlock = some g → (r j).v.ownBlock ≠ some g
def upd (r : Nat → ORow) (i : Nat) (x : ORow) : Nat → ORow := fun j => if j = i then x else r j
theorem upd_self (r : Nat → ORow) (i : Nat) (x : ORow) : upd r i x i = x := by simp [upd]
theorem upd_ne (r : Nat → ORow) {i j : Nat} (x : ORow) (h : j ≠ i) : upd r i x j = r j := by simp [upd, h]

variable {base k : Nat} {w w' : World} {r : Nat → ORow}
theorem Ctx.kept (h : Ctx base k w r) (hb : Below w.heap.size w w') : Ctx base k w' r :=
  ⟨fun i hi => Kp.own (S := fun _ => False) (Kp.of_below hb) (h.own i hi) (fun _ _ => id), h.dis⟩
theorem Ctx.alloc (h : Ctx base k w r) (o : Obj) : Ctx base k (w.alloc o) r := h.kept ((Below.refl _ _).alloc (Nat.le_refl _) _)
theorem Ctx.drew (h : Ctx base k w r) : Ctx base k w.drew r := ⟨h.own, h.dis⟩
theorem Ctx.app (h : Ctx base k w r) {i : Nat} (hi : i < k) {e : TypeId} {v : Value} {n m : Nat} (he : (r i).e = e) (hv : (r i).v = v) {xs : List Value} {v' : Value} (hp : AppPost base e v n m xs v' w w') :
    Ctx base k w' (upd r i ⟨e, v', n + m, xs⟩) := by
  have hK : Kp (fun b => v.ownBlock = some b) w w' := (Kp.refl _ _).grown hp.2.1 (fun _ e => .inl e)
  subst hv
  have hfr : ∀ j, j < k → j ≠ i → ∀ g, v'.ownBlock = some g → (r j).v.ownBlock ≠ some g := by
    intro j hj hne g hg hg'
    rcases hp.2.2 with h1 | h1
    · exact h.dis j i hj hi hne g hg' (h1.symm.trans hg)
    · have := ((h.own j hj).lt g hg').2
      rw [h1] at hg
      injection hg with hg
      omega
  refine ⟨fun j hj => ?_, fun a b ha hb hne g hg => ?_⟩
  · by_cases e1 : j = i
    · subst e1; rw [upd_self]; exact hp.1
    · rw [upd_ne _ _ e1]
      exact Kp.own hK (h.own j hj) (fun g hg hg' => h.dis j i hj hi e1 g hg hg')
  · by_cases e1 : a = i
    · subst e1
      rw [upd_self] at hg
      rw [upd_ne _ _ (fun e => hne e.symm)]
      exact hfr b hb (fun e => hne e.symm) g hg
    · rw [upd_ne _ _ e1] at hg
      by_cases e2 : b = i
      · subst e2
        rw [upd_self]
        exact fun hg' => hfr a ha e1 g hg' hg
      · rw [upd_ne _ _ e2]; exact h.dis a b ha hb hne g hg
theorem Ctx.nil (h : Ctx base k w r) (i : Nat) (e : TypeId) : Ctx base k w (upd r i (nilRow e)) := by
  refine ⟨fun j hj => ?_, fun a b ha hb hne g hg => ?_⟩
  · by_cases e1 : j = i
    · subst e1; rw [upd_self]; exact World.ownsRow_nil _ _ _ _
    · rw [upd_ne _ _ e1]; exact h.own j hj
  · by_cases e1 : a = i
    · subst e1; rw [upd_self] at hg; simp [nilRow, Value.ownBlock] at hg
    · rw [upd_ne _ _ e1] at hg
      by_cases e2 : b = i
      · subst e2; rw [upd_self]; simp [nilRow, Value.ownBlock]
      · rw [upd_ne _ _ e2]; exact h.dis a b ha hb hne g hg
theorem Ctx.new (base k : Nat) (w : World) (e : Nat → TypeId) : Ctx base k w (fun i => nilRow (e i)) :=
  ⟨fun _ _ => World.ownsRow_nil _ _ _ _, fun _ _ _ _ _ g hg => by simp [nilRow, Value.ownBlock] at hg⟩
/-- Behind an append nothing below the base has changed. -/
theorem Ctx.app_below (h : Ctx base k w r) {i : Nat} (hi : i < k) {e : TypeId} {v : Value} {n m : Nat} (hv : (r i).v = v) {xs : List Value} {v' : Value} (hp : AppPost base e v n m xs v' w w') {w0 : World} (hb : Below base w0 w) (hbase : base ≤ w.heap.size) : Below base w0 w' :=
  hb.grown hp.2.1 hbase (fun b hb' => own_base (h.own i hi) b (by rw [hv]; exact hb'))
/-- An owned row of ints reads. -/
theorem Ctx.is (h : Ctx base k w r) {i : Nat} (hi : i < k) {v : Value} {n : Nat} {z : List Int} (e : r i = ⟨3, v, n, z.map (Value.int .i64)⟩) (hn : n * 8 ≤ lim) : ∃ A c, v = .slice A n c ∧ IS w A n c z := by
  have := h.own i hi
  rw [e] at this
  exact IS.of_own this hn

/-- Slices that read as the rows of a list, in the world before. -/
def Pcs (w0 : World) (ps : List Value) (m : List (List UInt8)) : Prop := ps.length = m.length ∧ ∀ j, j < m.length → ∃ A n c, ps[j]? = some (.slice A n c) ∧ BS w0 A n c (gR m j)
theorem Pcs.nil (w0 : World) : Pcs w0 [] [] := ⟨rfl, fun j hj => absurd hj (by simp)⟩
theorem Pcs.push {w0 : World} {ps : List Value} {m : List (List UInt8)} (h : Pcs w0 ps m) {A : Option Addr} {n c : Nat} {l : List UInt8} (hl : BS w0 A n c l) : Pcs w0 (ps ++ [.slice A n c]) (m ++ [l]) := by
  refine ⟨by simp [h.1], fun j hj => ?_⟩
  by_cases hjn : j < m.length
  · obtain ⟨A1, n1, c1, h1, h2⟩ := h.2 j hjn
    exact ⟨A1, n1, c1, by rw [List.getElem?_append_left (by rw [h.1]; exact hjn)]; exact h1, by rw [gR_append_left hjn]; exact h2⟩
  · have : j = m.length := by simp at hj; omega
    subst this
    exact ⟨A, n, c, by rw [List.getElem?_append_right (by rw [h.1]; exact Nat.le_refl _), h.1, Nat.sub_self]; rfl, by rw [gR_append_self]; exact hl⟩
theorem Ctx.ms (h : Ctx base k w r) {w0 : World} (hb : Below w0.heap.size w0 w) {i : Nat} (hi : i < k) {v : Value} {n : Nat} {ps : List Value} {m : List (List UInt8)} (e : r i = ⟨22, v, n, ps⟩) (hp : Pcs w0 ps m) (hm : m.length = n) (hn : n * 24 ≤ lim) : ∃ A c, v = .slice A n c ∧ MS w A n c m := by
  have hown := h.own i hi
  rw [e] at hown
  simp only at hown
  rcases hown.2 with ⟨rfl, rfl⟩ | ⟨g, cap, cur, rfl, _, hh, hnc, _, hsz, htk⟩
  · exact ⟨none, 0, rfl, hm, Nat.le_refl _, hn, fun k hk => absurd hk (by omega)⟩
  · refine ⟨some ⟨g, 0, none⟩, cap, rfl, hm, hnc, hn, fun k hk => ?_⟩
    obtain ⟨A, k', c, h1, h2⟩ := hp.2 k (by omega)
    exact ⟨g, 0, A, k', c, rfl, by rw [Nat.zero_add, hown.cellAt k (by have := hown.1; omega)]; exact h1, h2.kept hb⟩
end Go.Proofs.Ytoeeklkebcgmaaa
/- What Locate computes: plain functions. -/
namespace Go.Proofs.Ytoeeklkebcgmaaa
open Go.RowKit Gf

/-- Of the first i indices those whose bit in s is b. -/
def selN (z : List Nat) (s : Nat) (b : Bool) : Nat → List Nat
  | 0 => []
  | i + 1 => if s.testBit i = b then selN z s b i ++ [gN z i] else selN z s b i
def selM (m : List (List UInt8)) (s : Nat) (b : Bool) : Nat → List (List UInt8)
  | 0 => []
  | i + 1 => if s.testBit i = b then selM m s b i ++ [gR m i] else selM m s b i
theorem sel_length (z : List Nat) (m : List (List UInt8)) (s : Nat) (b : Bool) : ∀ i, (selM m s b i).length = (selN z s b i).length
  | 0 => rfl
  | i + 1 => by
    have := sel_length z m s b i
    simp only [selM, selN]
    split <;> simp [this]
theorem sel_sum (z : List Nat) (s : Nat) : ∀ i, (selN z s false i).length + (selN z s true i).length = i
  | 0 => rfl
  | i + 1 => by
    have := sel_sum z s i
    simp only [selN]
    cases s.testBit i <;> simp <;> omega
theorem sel_le (z : List Nat) (s : Nat) (b : Bool) (i : Nat) : (selN z s b i).length ≤ i := by
  have := sel_sum z s i
  cases b <;> omega
theorem sel_count (z : List Nat) (s : Nat) : ∀ i, (selN z s true i).length = (List.range i).countP fun j => s.testBit j
  | 0 => rfl
  | i + 1 => by
    have := sel_count z s i
    simp only [selN, List.range_succ, List.countP_append, List.countP_cons, List.countP_nil]
    split
    · simp_all
    · simp_all
theorem popc_range (s : Nat) : ∀ n, n ≤ 8 → s < 2 ^ n → (List.range n).countP (fun j => s.testBit j) = popc s := by
  intro n hn hs
  have key : ∀ k, (List.range (n + k)).countP (fun j => s.testBit j) = (List.range n).countP (fun j => s.testBit j) := by
    intro k
    induction k with
    | zero => rfl
    | succ k ih =>
      rw [← Nat.add_assoc, List.range_succ, List.countP_append, ih]
      simp only [List.countP_cons, List.countP_nil]
      rw [Nat.testBit_lt_two_pow (Nat.lt_of_lt_of_le hs (Nat.pow_le_pow_right (by omega) (by omega)))]
      simp
  have := key (8 - n)
  rw [show n + (8 - n) = 8 by omega] at this
  exact this.symm
theorem sel_popc (z : List Nat) (s n : Nat) (hn : n ≤ 8) (hs : s < 2 ^ n) : (selN z s true n).length = popc s := by rw [sel_count, popc_range s n hn hs]
theorem sel_mem (z : List Nat) (s : Nat) (b : Bool) : ∀ i x, x ∈ selN z s b i → ∃ j, j < i ∧ x = gN z j
  | 0, x, h => by cases h
  | i + 1, x, h => by
    simp only [selN] at h
    split at h
    · rcases List.mem_append.1 h with h | h
      · obtain ⟨j, hj, e⟩ := sel_mem z s b i x h; exact ⟨j, by omega, e⟩
      · exact ⟨i, by omega, by simpa using h⟩
    · obtain ⟨j, hj, e⟩ := sel_mem z s b i x h; exact ⟨j, by omega, e⟩
theorem selM_mem (m : List (List UInt8)) (s : Nat) (b : Bool) : ∀ i x, x ∈ selM m s b i → ∃ j, j < i ∧ x = gR m j
  | 0, x, h => by cases h
  | i + 1, x, h => by
    simp only [selM] at h
    split at h
    · rcases List.mem_append.1 h with h | h
      · obtain ⟨j, hj, e⟩ := selM_mem m s b i x h; exact ⟨j, by omega, e⟩
      · exact ⟨i, by omega, by simpa using h⟩
    · obtain ⟨j, hj, e⟩ := selM_mem m s b i x h; exact ⟨j, by omega, e⟩
theorem selM_rect {m : List (List UInt8)} {L n : Nat} (h : Rect m L) (hm : m.length = n) (s : Nat) (b : Bool) : Rect (selM m s b n) L := fun i hi => by
  rw [gR_eq hi]
  obtain ⟨j, hj, e⟩ := selM_mem m s b n _ (List.getElem_mem hi)
  rw [e]; exact h j (by omega)
theorem selN_lt {z : List Nat} {B n : Nat} (h : ∀ i, i < n → gN z i < B) (s : Nat) (b : Bool) (i : Nat) (hi : i < (selN z s b n).length) : gN (selN z s b n) i < B := by
  rw [gN_eq hi]
  obtain ⟨j, hj, e⟩ := sel_mem z s b n _ (List.getElem_mem hi)
  rw [e]; exact h j hj

/-- What Locate has at a set s: the right indices and pieces, the factors of the right ones behind the first. -/
def locR (z : List Nat) (n s : Nat) : List Nat := selN z s false n
def locF (z : List Nat) (d n s : Nat) : List (List UInt8) := facM d (locR z n s) ((locR z n s).drop d)
def locK (z : List Nat) (d n s : Nat) : Nat := (locR z n s).length - d
/-- The places at which the sets before s conflicted. -/
def locP (z : List Nat) (m : List (List UInt8)) (d L n : Nat) : Nat → List Nat
  | 0 => []
  | s + 1 => if popc s = (n - d) / 2 ∧ fitB (selM m s false n) (locF z d n s) d (locK z d n s) (locP z m d L n s) = true ∧ 0 ≤ cfl (selM m s false n) (locF z d n s) d L (locK z d n s) then
      locP z m d L n s ++ [(cfl (selM m s false n) (locF z d n s) d L (locK z d n s)).toNat] else locP z m d L n s
/-- Whether s is a set that explains the pieces. -/
def locH (z : List Nat) (m : List (List UInt8)) (d L n s : Nat) : Bool :=
  decide (popc s = (n - d) / 2) && fitB (selM m s false n) (locF z d n s) d (locK z d n s) (locP z m d L n s) && decide (cfl (selM m s false n) (locF z d n s) d L (locK z d n s) < 0)
def locO (z : List Nat) (m : List (List UInt8)) (d L n s : Nat) : List Int :=
  isort (ints (difs (selM m s false n) (facM d (locR z n s) (selN z s true n)) (selN z s true n) (selM m s true n) L (popc s)))
theorem locP_length (z : List Nat) (m : List (List UInt8)) (d L n : Nat) : ∀ s, (locP z m d L n s).length ≤ s
  | 0 => by simp [locP]
  | s + 1 => by
    have := locP_length z m d L n s
    simp only [locP]
    split <;> simp <;> omega
end Go.Proofs.Ytoeeklkebcgmaaa
/- Lemmas for Locate: factors of none or some, a slice behind the first elements, places. -/
namespace Go.Proofs.Ytoeeklkebcgmaaa
open Go.RowKit Gf

theorem IS.drop {w : World} {A : Option Addr} {n c d : Nat} {z : List Nat} (h : IS w A n c (ints z)) (hd : 0 < d) (hdn : d < n) : IS w (A.map fun x => x.add d) (n - d) (c - d) (ints (z.drop d)) := by
  have hl : z.length = n := by rw [← ints_length, h.1]
  have h3 := h.2.2.1
  refine ⟨by rw [ints_length, List.length_drop, hl], by have := h.2.1; omega, by unfold lim at h3 ⊢; omega, fun k hk => ?_⟩
  obtain ⟨g, o, e, hc⟩ := h.nat (Below.refl _ _) (show d + k < n by omega)
  refine ⟨g, o + d, by rw [e]; simp [Addr.add, show d ≠ 0 by omega], ?_⟩
  have e1 : gI (ints (z.drop d)) k = (gN z (d + k) : Int) := by
    rw [gI_eq (by rw [ints_length, List.length_drop]; omega), gN_eq (by omega)]
    simp [ints]
  show w.cell? ⟨g, o + d + k, none⟩ = some (.int .i64 (gI (ints (z.drop d)) k))
  rw [e1, Nat.add_assoc]
  exact hc
theorem gN_drop {z : List Nat} {d k : Nat} : gN (z.drop d) k = gN z (d + k) := by simp [gN, List.getD]
theorem facM_nil (d : Nat) (z : List Nat) : facM d z [] = [] := List.length_eq_zero_iff.1 (by rw [facM_length]; rfl)

def FacRet (F : List (List UInt8)) (n' : Nat) (w : World) (e : Ending) (w' : World) : Prop := ∃ A c, e = .returned (.slice A n' c) ∧ MS w' A n' c F ∧ Below w.heap.size w w'

theorem factors_gen (gt d : Nat) (A A' : Option Addr) (n n' c c' : Nat) (z y : List Nat) (w : World) (ht : Blk w gt 80 (tblA d 16 0)) (hd : d ≤ 8) (hd0 : 0 < d) (h : IS w A n c (ints z)) (hz : ∀ i, i < n → gN z i < 16) (hn : d ≤ n)
    (hyl : y.length = n') (h' : 0 < n' → IS w A' n' c' (ints y)) (hy : ∀ i, i < n' → gN y i < 16) (hn64 : n' ≤ 64) (hreg : Reg d z) :
    Calls Try.prog 41 #[.pointer (some ⟨gt, 0, none⟩), .slice A n c, .slice A' n' c'] w (FacRet (facM d z y) n' w) := by
  rcases Nat.eq_zero_or_pos n' with h0 | h0
  · subst h0
    have : y = [] := List.length_eq_zero_iff.1 hyl
    subst this
    refine (factors_none gt A A' n c c' w).mono ?_
    rintro e w' ⟨rfl, rfl⟩
    exact ⟨none, 0, rfl, by rw [facM_nil]; exact MS.nil, Below.refl _ _⟩
  · refine (factors_any gt d A A' n n' c c' z y w ht hd hd0 h hz hn (h' h0) hy h0 hn64 hreg).mono ?_
    rintro e w' ⟨v, rfl, hv⟩
    obtain ⟨g1, n1, rfl, hn1, hms, hb1⟩ := hv.ms (by rw [facM_length, hyl]; unfold lim; omega)
    obtain rfl : n1 = n' := by rw [← hn1, facM_length, hyl]
    exact ⟨_, _, rfl, hms, hb1⟩

theorem cfl_lt {m F : List (List UInt8)} {d L n : Nat} (hr : Rect m L) (hm : m.length = n) (hL : 0 < L) : ∀ j, d + j ≤ n → (∀ i, i < j → (prd m (gR F i) L).length = L) → cfl m F d L j < L := by
  intro j
  induction j with
  | zero => intro _ _; simp [cfl]; omega
  | succ j ih =>
    intro hj hp
    have h1 := ih (by omega) (fun i hi => hp i (by omega))
    simp only [cfl]
    split
    · exact h1
    · rename_i hne
      have hl1 : (gR m (d + j)).length = L := hr _ (by omega)
      have := (fdf_spec _ _ (by rw [hl1, hp j (by omega)]) hne).1
      split <;> omega
theorem ownsRow_base {w : World} {b b' : Nat} {e : TypeId} {v : Value} {n : Nat} {xs : List Value} (h : w.ownsRow b' e 1 v n xs) (hb : b ≤ b') : w.ownsRow b e 1 v n xs := by
  refine ⟨h.1, ?_⟩
  rcases h.2 with h2 | ⟨g, cap, cur, h1, h2, h3⟩
  · exact .inl h2
  · exact .inr ⟨g, cap, cur, h1, Nat.le_trans hb h2, h3⟩
end Go.Proofs.Ytoeeklkebcgmaaa
/- Contract of reedsolomon.Locate. -/
namespace Go.Proofs.Ytoeeklkebcgmaaa
open Go.RowKit Gf
variable {A : Option Addr} {n c : Nat}

attribute [local go_sem] Gf.xor_bits Gf.and_bits Gf.or_bits Gf.ne_zero_iff Gf.eq_zero_iff Gf.eq_one_iff Gf.beq_bytes Gf.bne_bytes Gf.bv_toNat

def rows5 (vr vo vp vq vpl : Value) (z : List Nat) (m : List (List UInt8)) (pl : List Nat) (s i : Nat) (pr po : List Value) : Nat → ORow
  | 0 => ⟨3, vr, (selN z s false i).length, (ints (selN z s false i)).map (Value.int .i64)⟩
  | 1 => ⟨3, vo, (selN z s true i).length, (ints (selN z s true i)).map (Value.int .i64)⟩
  | 2 => ⟨22, vp, (selM m s false i).length, pr⟩
  | 3 => ⟨22, vq, (selM m s true i).length, po⟩
  | _ => ⟨3, vpl, pl.length, (ints pl).map (Value.int .i64)⟩
def PartI (w0 : World) (z : List Nat) (m : List (List UInt8)) (pl : List Nat) (vpl : Value) (s i : Nat) (vr vo vp vq : Value) (wr : World) : Prop :=
  ∃ pr po, Ctx w0.heap.size 5 wr (rows5 vr vo vp vq vpl z m pl s i pr po) ∧ Below w0.heap.size w0 wr ∧ Pcs w0 pr (selM m s false i) ∧ Pcs w0 po (selM m s true i)
def LocI (L : Nat) (w0 : World) (pl : List Nat) (vpl : Value) (wr : World) : Prop := wr.ownsRow w0.heap.size 3 1 vpl pl.length ((ints pl).map (Value.int .i64)) ∧ Below w0.heap.size w0 wr ∧ ∀ i, i < pl.length → gN pl i < L
def LocRet (z : List Nat) (m : List (List UInt8)) (d L n : Nat) (w : World) (e : Ending) (w' : World) : Prop :=
  Below w.heap.size w w' ∧ ((∃ s, s < 2 ^ n ∧ locH z m d L n s = true ∧ (∀ s', s' < s → locH z m d L n s' = false) ∧ ∃ v, e = .returned (.tuple #[v, .int .i64 0]) ∧ w'.ownsRow w.heap.size 3 1 v (locO z m d L n s).length ((locO z m d L n s).map (Value.int .i64))) ∨
    ((∀ s, s < 2 ^ n → locH z m d L n s = false) ∧ e = .returned (.tuple #[.slice none 0 0, .int .i64 9])))

theorem bit_eq (s k : Nat) (hs : s < 256) : bits .and .u64 ((s : Int) / 2 ^ k) 1 = if s.testBit k then 1 else 0 := by
  have e : (s : Int) / 2 ^ k = ((s / 2 ^ k : Nat) : Int) := by push_cast; rfl
  have hlt : s / 2 ^ k < 256 := Nat.lt_of_le_of_lt (Nat.div_le_self _ _) hs
  have := u64_and_nat (s / 2 ^ k) 1 (by omega) (by omega)
  rw [e]
  rw [show ((1 : Nat) : Int) = 1 from rfl] at this
  rw [this, Nat.and_one_is_mod, Nat.testBit_eq_decide_div_mod_eq]
  by_cases h : s / 2 ^ k % 2 = 1
  · simp [h]
  · have : s / 2 ^ k % 2 = 0 := by omega
    simp [this]
theorem PartI.start {w2 : World} {z : List Nat} {m : List (List UInt8)} {pl : List Nat} {v : Value} {s : Nat} {wr : World} {L : Nat} (h : LocI L w2 pl v wr) : PartI w2 z m pl v s 0 (.slice none 0 0) (.slice none 0 0) (.slice none 0 0) (.slice none 0 0) wr := by
  refine ⟨[], [], ⟨fun i hi => ?_, fun i j hi hj hne g hg => ?_⟩, h.2.1, Pcs.nil _, Pcs.nil _⟩
  · match i with
    | 0 => exact World.ownsRow_nil _ _ _ _
    | 1 => exact World.ownsRow_nil _ _ _ _
    | 2 => exact World.ownsRow_nil _ _ _ _
    | 3 => exact World.ownsRow_nil _ _ _ _
    | 4 => exact h.1
  · match i, j with
    | 0, _ => simp [rows5, Value.ownBlock] at hg
    | 1, _ => simp [rows5, Value.ownBlock] at hg
    | 2, _ => simp [rows5, Value.ownBlock] at hg
    | 3, _ => simp [rows5, Value.ownBlock] at hg
    | 4, 0 => simp [rows5, Value.ownBlock]
    | 4, 1 => simp [rows5, Value.ownBlock]
    | 4, 2 => simp [rows5, Value.ownBlock]
    | 4, 3 => simp [rows5, Value.ownBlock]
    | 4, 4 => exact absurd rfl hne
theorem Ctx.congr {base k : Nat} {w : World} {r r' : Nat → ORow} (h : Ctx base k w r) (e : ∀ i, i < k → r i = r' i) : Ctx base k w r' :=
  ⟨fun i hi => by rw [← e i hi]; exact h.own i hi, fun i j hi hj hne g => by rw [← e i hi, ← e j hj]; exact h.dis i j hi hj hne g⟩
/-- A round whose bit is not set: the index and the piece are among the right ones. -/
theorem PartI.right {w2 : World} {z : List Nat} {m : List (List UInt8)} {pl : List Nat} {v : Value} {s k : Nat} {vr vo vp vq vr' vp' : Value} {pr po : List Value} {wr : World} (hbit : s.testBit k = false)
    (hc : Ctx w2.heap.size 5 wr (upd (upd (rows5 vr vo vp vq v z m pl s k pr po) 0 ⟨3, vr', (selN z s false k).length + 1, (ints (selN z s false k)).map (Value.int .i64) ++ [.int .i64 (gN z k : Int)]⟩) 2 ⟨22, vp', (selM m s false k).length + 1, pr ++ [.slice A n c]⟩))
    (hb : Below w2.heap.size w2 wr) (h1 : Pcs w2 pr (selM m s false k)) (h2 : Pcs w2 po (selM m s true k)) (hl : BS w2 A n c (gR m k)) : PartI w2 z m pl v s (k + 1) vr' vo vp' vq wr := by
  have e1 : selN z s false (k + 1) = selN z s false k ++ [gN z k] := by rw [selN, if_pos hbit]
  have e2 : selN z s true (k + 1) = selN z s true k := by rw [selN, if_neg (by simp [hbit])]
  have e3 : selM m s false (k + 1) = selM m s false k ++ [gR m k] := by rw [selM, if_pos hbit]
  have e4 : selM m s true (k + 1) = selM m s true k := by rw [selM, if_neg (by simp [hbit])]
  refine ⟨pr ++ [.slice A n c], po, hc.congr (fun i hi => ?_), hb, by rw [e3]; exact h1.push hl, by rw [e4]; exact h2⟩
  match i with
  | 0 => simp only [upd, rows5, e1, ints_map_append, List.length_append, List.length_cons, List.length_nil]; rfl
  | 1 => simp only [upd, rows5, e2]; rfl
  | 2 => simp only [upd, rows5, e3, List.length_append, List.length_cons, List.length_nil]; rfl
  | 3 => simp only [upd, rows5, e4]; rfl
  | 4 => simp only [upd, rows5]; rfl
theorem PartI.other {w2 : World} {z : List Nat} {m : List (List UInt8)} {pl : List Nat} {v : Value} {s k : Nat} {vr vo vp vq vo' vq' : Value} {pr po : List Value} {wr : World} (hbit : s.testBit k = true)
    (hc : Ctx w2.heap.size 5 wr (upd (upd (rows5 vr vo vp vq v z m pl s k pr po) 1 ⟨3, vo', (selN z s true k).length + 1, (ints (selN z s true k)).map (Value.int .i64) ++ [.int .i64 (gN z k : Int)]⟩) 3 ⟨22, vq', (selM m s true k).length + 1, po ++ [.slice A n c]⟩))
    (hb : Below w2.heap.size w2 wr) (h1 : Pcs w2 pr (selM m s false k)) (h2 : Pcs w2 po (selM m s true k)) (hl : BS w2 A n c (gR m k)) : PartI w2 z m pl v s (k + 1) vr vo' vp vq' wr := by
  have e1 : selN z s false (k + 1) = selN z s false k := by rw [selN, if_neg (by simp [hbit])]
  have e2 : selN z s true (k + 1) = selN z s true k ++ [gN z k] := by rw [selN, if_pos hbit]
  have e3 : selM m s false (k + 1) = selM m s false k := by rw [selM, if_neg (by simp [hbit])]
  have e4 : selM m s true (k + 1) = selM m s true k ++ [gR m k] := by rw [selM, if_pos hbit]
  refine ⟨pr, po ++ [.slice A n c], hc.congr (fun i hi => ?_), hb, by rw [e3]; exact h1, by rw [e4]; exact h2.push hl⟩
  match i with
  | 0 => simp only [upd, rows5, e1]; rfl
  | 1 => simp only [upd, rows5, e2, ints_map_append, List.length_append, List.length_cons, List.length_nil]; rfl
  | 2 => simp only [upd, rows5, e3]; rfl
  | 3 => simp only [upd, rows5, e4, List.length_append, List.length_cons, List.length_nil]; rfl
  | 4 => simp only [upd, rows5]; rfl

set_option maxRecDepth 100000 in
set_option maxHeartbeats 4000000 in
theorem locate_ok (d t : Nat) (A A' : Option Addr) (n c c' : Nat) (z : List Nat) (m : List (List UInt8)) (L : Nat) (w : World) (h : IS w A n c (ints z)) (h' : MS w A' n c' m)
    (hok : gvE d t (ints z) m = 0) (hd : 1 ≤ d) (hd8 : d ≤ 8) (hz : ∀ i, i < n → gN z i < 16) (hn : d ≤ n) (hn8 : n ≤ 8) (hrect : Rect m L) (hL0 : 0 < L) (hL : L ≤ 65536) (hreg : ∀ s, s < 2 ^ n → popc s = (n - d) / 2 → Reg d (locR z n s)) :
    Calls Try.prog 20 #[.int .i64 (d : Int), .int .i64 (t : Int), .slice A n c, .slice A' n c'] w (LocRet z m d L n w) := by
  have HZ : Hid (z.length = n) := Lib.hid (by rw [← ints_length, h.1])
  have HMl : Hid (m.length = n) := Lib.hid h'.1
  have HI := Lib.hid h
  have HM := Lib.hid h'
  clear h h'
  go_enter Try.func20, Try.ntmps20
  go_wp2_with fail
  refine (checkGiven_any d t A A' n c n c' (ints z) m w HI.out HM.out).mono ?_
  rintro e w1 ⟨rfl, hb1⟩
  rw [hok]
  go_wp2_with fail
  refine (newTable_any d _ hd8).mono ?_
  rintro e w2 ⟨rfl, htab, hb2⟩
  have HI2 := Lib.hid ((HI.out.kept hb1).kept hb2)
  have HM2 := Lib.hid ((HM.out.kept hb1).kept hb2)
  have HB2 : Hid (Below w.heap.size w w2) := Lib.hid (below_then hb1 hb2)
  have HT := Lib.hid htab
  clear hb1 hb2 htab HI HM
  obtain ⟨gt, hgt⟩ : ∃ gt, gt = w1.heap.size := ⟨_, rfl⟩
  rw [← hgt] at HT ⊢
  clear hgt
  go_wp2_with fail
  obtain ⟨x, hx⟩ : ∃ x : Nat, x = (n - d) / 2 := ⟨_, rfl⟩
  obtain ⟨N, hN⟩ : ∃ N : Nat, N = 2 ^ n := ⟨_, rfl⟩
  have ex : ((n : Int) - (d : Int)) / 2 = (x : Int) := by rw [hx]; omega
  have HN8 : Hid (N ≤ 256) := Lib.hid (by rw [hN]; exact Nat.pow_le_pow_right (n := 2) (by omega) hn8)
  have eN : IntKind.u64.wrap (2 ^ n) = (N : Int) := by
    have := HN8.out
    have e2 : ((2 : Int) ^ n) = (N : Int) := by rw [hN]; norm_cast
    rw [e2, IntKind.wrap_u64]; omega
  rw [ex, eN]
  have HX := Lib.hid hx
  have HN := Lib.hid hN
  have HREG := Lib.hid hreg
  clear hx hN ex eN hreg hok
  go_loopw [13, 41] (fun v i wr => ∃ s : Nat, s ≤ N ∧ i = .int .u64 (s : Int) ∧ Hid (LocI L w2 (locP z m d L n s) v wr) ∧ Hid (∀ s', s' < s → locH z m d L n s' = false)) (fun _ i _ => N - (intOf i).toNat)
  case atStart => exact ⟨0, by omega, rfl, Lib.hid ⟨World.ownsRow_nil _ _ _ _, Below.refl _ _, fun i hi => absurd hi (by simp [locP])⟩, Lib.hid (fun s' hs' => absurd hs' (by omega))⟩
  case round =>
    obtain ⟨s, hsN, rfl, hI, hH⟩ := hrel
    by_cases hlt : s < N
    · have hs256 : (s : Int) < 256 := by have := HN8.out; omega
      have HS256 : Hid (s < 256) := Lib.hid (by omega)
      obtain ⟨p, hp⟩ : ∃ p, p = popc s := ⟨_, rfl⟩
      have HC : Hid (Calls Try.prog 40 #[.int .u64 (s : Int)] wr fun e w' => e = .returned (.int .i64 (p : Int)) ∧ wr = w') := Lib.hid (by rw [hp]; exact ones_any s wr HS256.out)
      have HP := Lib.hid hp
      clear hp
      by_cases hpx : p = x
      · have hb1 : ((p : Int) != (x : Int)) = false := by simp [hpx]
        have HPX := Lib.hid hpx
        clear hpx
        go_wp2_with fail
        refine HC.out.mono ?_
        rintro e w3 ⟨rfl, rfl⟩
        go_wp2_with fail
        clear HC
        obtain ⟨wo, rfl⟩ : ∃ wo : World, wo = wr := ⟨_, rfl⟩
        go_loopw [15, 16, 17, 18, 50] (fun vr vo vp vq i wr => ∃ k : Nat, k ≤ n ∧ i = .int .i64 (k : Int) ∧ Hid (PartI w2 z m (locP z m d L n s) u13 s k vr vo vp vq wr)) (fun _ _ _ _ i _ => n - (intOf i).toNat)
        case atStart => exact ⟨0, by omega, rfl, Lib.hid (PartI.start hI.out)⟩
        case round =>
          obtain ⟨k, hk, rfl, hpt⟩ := hrel
          by_cases hkn : k < n
          · obtain ⟨pr, po, hc, hb, hp1, hp2⟩ := hpt.out
            obtain ⟨g1, o1, rfl, hc1⟩ := HI2.out.nat hb hkn
            obtain ⟨g2, o2, A2, n2, c2, rfl, hc2, hr2⟩ := HM2.out.at_ (Below.refl _ _) hkn
            have hc2' := cell_kept hb hc2
            have HCX := Lib.hid hc
            have HBX := Lib.hid hb
            have HP1 := Lib.hid hp1
            have HP2 := Lib.hid hp2
            have HR2 := Lib.hid hr2
            have HC2 := Lib.hid hc2
            have HBIT := Lib.hid (bit_eq s k HS256.out)
            clear hc hb hp1 hp2 hr2 hpt hc2
            cases hbit : s.testBit k with
            | false =>
              have hbb : (bits .and .u64 ((s : Int) / 2 ^ k) 1 == 0) = true := by rw [HBIT.out, hbit]; rfl
              have HBT := Lib.hid hbit
              clear hbit HBIT
              have hsl := sel_le z s false k
              have HML : Hid ((selM m s false k).length ≤ k) := Lib.hid (by rw [sel_length z]; exact sel_le z s false k)
              have hml := HML.out
              go_wp2_with fail
              refine Text.wp_region_bt (fun w' => w'.cell? ⟨g2, o2 + k, none⟩ = some (.slice A2 n2 c2)) (.still 0 4 (.still 1 4 (.still 4 4 (.still 5 4 (.still 6 4 (.still 7 4 (.still 8 0 (.br 2 (.br 3 (.eff 9 (.eff 10 (.still 11 4 (.still 12 4 .leaf)))) 9 (.eff 3 (.eff 10 (.still 11 4 (.still 12 4 .leaf))))) 9 (.eff 2 (.eff 3 (.eff 10 (.still 11 4 (.still 12 4 .leaf))))))))))))) (by kernel_rfl) (by kernel_rfl) (fun _ _ _ _ _ h => h) (hc2') ?_
              obtain ⟨wd, hwd⟩ : ∃ wd : World, wd = wr.drew := ⟨_, rfl⟩
              have HCd : Hid (Ctx w2.heap.size 5 wd (rows5 u15 u16 u17 u18 u13 z m (locP z m d L n s) s k pr po)) := Lib.hid (by rw [hwd]; exact HCX.out.drew)
              have HBd : Hid (Below w2.heap.size w2 wd) := Lib.hid (by rw [hwd]; exact HBX.out.drew)
              have HZd : Hid (w2.heap.size ≤ wd.heap.size) := Lib.hid HBd.out.size
              rw [← hwd]
              clear hwd HCX HBX hc2' hc1
              iterate 6 (refine Text.bpurek rfl rfl (fun K hK => ⟨_, fun w' => by go_simp <;> rfl, ?_⟩); go_simp; refine hK _ ?_; clear hK K)
              have hcd := cell_kept HBd.out HC2.out
              (refine Text.bheldk rfl rfl (fun K hK => ⟨_, fun w' hw' => by go_simp <;> rfl, ?_⟩); go_simp; refine hK _ ?_; clear hK K)
              refine Text.bfork ?_ ?_
              · refine Text.beff rfl rfl (fun K hK => ?_)
                go_simp
                obtain ⟨gI, hgI⟩ : ∃ g, g = wd.heap.size := ⟨_, rfl⟩
                obtain ⟨wa1, hwwa1⟩ : ∃ w' : World, w' = wd.alloc (.cells #[.int .i64 (gN z k : Int)] 3) := ⟨_, rfl⟩
                have kb1 : Below wd.heap.size wd wa1 := by rw [hwwa1]; exact (Below.refl _ _).alloc (Nat.le_refl _) _
                have HGI1 : Hid (Blk wa1 gI 3 #[.int .i64 (gN z k : Int)]) := Lib.hid (by rw [hwwa1, hgI]; exact Blk.new _ _ _)
                have HCa1 := Lib.hid (HCd.out.kept kb1)
                have HBa1 : Hid (Below w2.heap.size w2 wa1) := Lib.hid (below_then HBd.out kb1)
                rw [← hwwa1, ← hgI]
                refine hK _ _ (cell_kept HBa1.out HC2.out) ?_
                clear hK K kb1 hwwa1 hgI
                refine Text.bfork ?_ ?_
                · refine Text.beff rfl rfl (fun K hK => ?_)
                  refine wp_app1 wa1 (.tmp 60) (.tmp 62) 37 3 (.int .i64 0) 8 Try.underlying37 infoInt rfl rfl w2.heap.size u15 (selN z s false k).length ((ints (selN z s false k)).map (Value.int .i64)) rfl (HCa1.out.own 0 (by omega)) gI 1 3 (.int .i64 (gN z k : Int)) rfl HGI1.out rfl (by omega) (by omega) HBa1.out.size ?_
                  intro va2 wa2 hp2
                  have HCa2 := Lib.hid (HCa1.out.app (i := 0) (by omega) rfl rfl hp2)
                  have HBa2 : Hid (Below w2.heap.size w2 wa2) := Lib.hid (HCa1.out.app_below (i := 0) (by omega) rfl hp2 HBa1.out HBa1.out.size)
                  refine hK _ _ (cell_kept HBa2.out HC2.out) ?_
                  clear hK K hp2
                  refine Text.beff rfl rfl (fun K hK => ?_)
                  go_simp
                  obtain ⟨gS, hgS⟩ : ∃ g, g = wa2.heap.size := ⟨_, rfl⟩
                  obtain ⟨wa3, hwwa3⟩ : ∃ w' : World, w' = wa2.alloc (.cells #[.slice A2 n2 c2] 22) := ⟨_, rfl⟩
                  have kb3 : Below wa2.heap.size wa2 wa3 := by rw [hwwa3]; exact (Below.refl _ _).alloc (Nat.le_refl _) _
                  have HGS3 : Hid (Blk wa3 gS 22 #[.slice A2 n2 c2]) := Lib.hid (by rw [hwwa3, hgS]; exact Blk.new _ _ _)
                  have HCa3 := Lib.hid (HCa2.out.kept kb3)
                  have HBa3 : Hid (Below w2.heap.size w2 wa3) := Lib.hid (below_then HBa2.out kb3)
                  rw [← hwwa3, ← hgS]
                  refine hK _ _ (cell_kept HBa3.out HC2.out) ?_
                  clear hK K kb3 hwwa3 hgS
                  refine Text.beff rfl rfl (fun K hK => ?_)
                  refine wp_app1 wa3 (.tmp 64) (.tmp 69) 30 22 (.slice none 0 0) 24 Try.underlying30 infoBytes rfl rfl w2.heap.size u17 (selM m s false k).length pr rfl (HCa3.out.own 2 (by omega)) gS 1 22 (.slice A2 n2 c2) rfl HGS3.out rfl (by omega) (by omega) HBa3.out.size ?_
                  intro va4 wa4 hp4
                  have HCa4 := Lib.hid (HCa3.out.app (i := 2) (by omega) rfl rfl hp4)
                  have HBa4 : Hid (Below w2.heap.size w2 wa4) := Lib.hid (HCa3.out.app_below (i := 2) (by omega) rfl hp4 HBa3.out HBa3.out.size)
                  refine hK _ _ (cell_kept HBa4.out HC2.out) ?_
                  clear hK K hp4
                  iterate 2 (refine Text.bpurek rfl rfl (fun K hK => ⟨_, fun w' => by go_simp <;> rfl, ?_⟩); go_simp; refine hK _ ?_; clear hK K)
                  refine Text.bdone ?_
                  have HPT := Lib.hid (PartI.right HBT.out HCa4.out HBa4.out HP1.out HP2.out HR2.out)
                  go_wp2_with fail
                  go_roundw
                  case rel => exact ⟨k + 1, by omega, by go_num, HPT⟩
                  case measure => simp [intOf]; omega
                · refine Text.beff rfl rfl (fun K hK => ?_)
                  go_simp
                  obtain ⟨gS, hgS⟩ : ∃ g, g = wa1.heap.size := ⟨_, rfl⟩
                  obtain ⟨wb2, hwwb2⟩ : ∃ w' : World, w' = wa1.alloc (.cells #[.slice A2 n2 c2] 22) := ⟨_, rfl⟩
                  have kb2 : Below wa1.heap.size wa1 wb2 := by rw [hwwb2]; exact (Below.refl _ _).alloc (Nat.le_refl _) _
                  have HGS2 : Hid (Blk wb2 gS 22 #[.slice A2 n2 c2]) := Lib.hid (by rw [hwwb2, hgS]; exact Blk.new _ _ _)
                  have HGI2 := Lib.hid (HGI1.out.kept kb2)
                  have HCb2 := Lib.hid (HCa1.out.kept kb2)
                  have HBb2 : Hid (Below w2.heap.size w2 wb2) := Lib.hid (below_then HBa1.out kb2)
                  rw [← hwwb2, ← hgS]
                  refine hK _ _ (cell_kept HBb2.out HC2.out) ?_
                  clear hK K kb2 hwwb2 hgS
                  refine Text.beff rfl rfl (fun K hK => ?_)
                  refine wp_app1 wb2 (.tmp 60) (.tmp 62) 37 3 (.int .i64 0) 8 Try.underlying37 infoInt rfl rfl w2.heap.size u15 (selN z s false k).length ((ints (selN z s false k)).map (Value.int .i64)) rfl (HCb2.out.own 0 (by omega)) gI 1 3 (.int .i64 (gN z k : Int)) rfl HGI2.out rfl (by omega) (by omega) HBb2.out.size ?_
                  intro vb3 wb3 hp3
                  have HCb3 := Lib.hid (HCb2.out.app (i := 0) (by omega) rfl rfl hp3)
                  have HBb3 : Hid (Below w2.heap.size w2 wb3) := Lib.hid (HCb2.out.app_below (i := 0) (by omega) rfl hp3 HBb2.out HBb2.out.size)
                  have HGS3 := Lib.hid (grown_blk hp3.2.1 HGS2.out (own_ne (e := 3) (HCb2.out.own 0 (by omega)) HGS2.out (by decide)))
                  refine hK _ _ (cell_kept HBb3.out HC2.out) ?_
                  clear hK K hp3
                  refine Text.beff rfl rfl (fun K hK => ?_)
                  refine wp_app1 wb3 (.tmp 64) (.tmp 69) 30 22 (.slice none 0 0) 24 Try.underlying30 infoBytes rfl rfl w2.heap.size u17 (selM m s false k).length pr rfl (HCb3.out.own 2 (by omega)) gS 1 22 (.slice A2 n2 c2) rfl HGS3.out rfl (by omega) (by omega) HBb3.out.size ?_
                  intro vb4 wb4 hp4
                  have HCb4 := Lib.hid (HCb3.out.app (i := 2) (by omega) rfl rfl hp4)
                  have HBb4 : Hid (Below w2.heap.size w2 wb4) := Lib.hid (HCb3.out.app_below (i := 2) (by omega) rfl hp4 HBb3.out HBb3.out.size)
                  refine hK _ _ (cell_kept HBb4.out HC2.out) ?_
                  clear hK K hp4
                  iterate 2 (refine Text.bpurek rfl rfl (fun K hK => ⟨_, fun w' => by go_simp <;> rfl, ?_⟩); go_simp; refine hK _ ?_; clear hK K)
                  refine Text.bdone ?_
                  have HPT := Lib.hid (PartI.right HBT.out HCb4.out HBb4.out HP1.out HP2.out HR2.out)
                  go_wp2_with fail
                  go_roundw
                  case rel => exact ⟨k + 1, by omega, by go_num, HPT⟩
                  case measure => simp [intOf]; omega
              · refine Text.beff rfl rfl (fun K hK => ?_)
                go_simp
                obtain ⟨gS, hgS⟩ : ∃ g, g = wd.heap.size := ⟨_, rfl⟩
                obtain ⟨wc1, hwwc1⟩ : ∃ w' : World, w' = wd.alloc (.cells #[.slice A2 n2 c2] 22) := ⟨_, rfl⟩
                have kb1 : Below wd.heap.size wd wc1 := by rw [hwwc1]; exact (Below.refl _ _).alloc (Nat.le_refl _) _
                have HGS1 : Hid (Blk wc1 gS 22 #[.slice A2 n2 c2]) := Lib.hid (by rw [hwwc1, hgS]; exact Blk.new _ _ _)
                have HCc1 := Lib.hid (HCd.out.kept kb1)
                have HBc1 : Hid (Below w2.heap.size w2 wc1) := Lib.hid (below_then HBd.out kb1)
                rw [← hwwc1, ← hgS]
                refine hK _ _ (cell_kept HBc1.out HC2.out) ?_
                clear hK K kb1 hwwc1 hgS
                refine Text.beff rfl rfl (fun K hK => ?_)
                go_simp
                obtain ⟨gI, hgI⟩ : ∃ g, g = wc1.heap.size := ⟨_, rfl⟩
                obtain ⟨wc2, hwwc2⟩ : ∃ w' : World, w' = wc1.alloc (.cells #[.int .i64 (gN z k : Int)] 3) := ⟨_, rfl⟩
                have kb2 : Below wc1.heap.size wc1 wc2 := by rw [hwwc2]; exact (Below.refl _ _).alloc (Nat.le_refl _) _
                have HGI2 : Hid (Blk wc2 gI 3 #[.int .i64 (gN z k : Int)]) := Lib.hid (by rw [hwwc2, hgI]; exact Blk.new _ _ _)
                have HGS2 := Lib.hid (HGS1.out.kept kb2)
                have HCc2 := Lib.hid (HCc1.out.kept kb2)
                have HBc2 : Hid (Below w2.heap.size w2 wc2) := Lib.hid (below_then HBc1.out kb2)
                rw [← hwwc2, ← hgI]
                refine hK _ _ (cell_kept HBc2.out HC2.out) ?_
                clear hK K kb2 hwwc2 hgI
                refine Text.beff rfl rfl (fun K hK => ?_)
                refine wp_app1 wc2 (.tmp 60) (.tmp 62) 37 3 (.int .i64 0) 8 Try.underlying37 infoInt rfl rfl w2.heap.size u15 (selN z s false k).length ((ints (selN z s false k)).map (Value.int .i64)) rfl (HCc2.out.own 0 (by omega)) gI 1 3 (.int .i64 (gN z k : Int)) rfl HGI2.out rfl (by omega) (by omega) HBc2.out.size ?_
                intro vc3 wc3 hp3
                have HCc3 := Lib.hid (HCc2.out.app (i := 0) (by omega) rfl rfl hp3)
                have HBc3 : Hid (Below w2.heap.size w2 wc3) := Lib.hid (HCc2.out.app_below (i := 0) (by omega) rfl hp3 HBc2.out HBc2.out.size)
                have HGS3 := Lib.hid (grown_blk hp3.2.1 HGS2.out (own_ne (e := 3) (HCc2.out.own 0 (by omega)) HGS2.out (by decide)))
                refine hK _ _ (cell_kept HBc3.out HC2.out) ?_
                clear hK K hp3
                refine Text.beff rfl rfl (fun K hK => ?_)
                refine wp_app1 wc3 (.tmp 64) (.tmp 69) 30 22 (.slice none 0 0) 24 Try.underlying30 infoBytes rfl rfl w2.heap.size u17 (selM m s false k).length pr rfl (HCc3.out.own 2 (by omega)) gS 1 22 (.slice A2 n2 c2) rfl HGS3.out rfl (by omega) (by omega) HBc3.out.size ?_
                intro vc4 wc4 hp4
                have HCc4 := Lib.hid (HCc3.out.app (i := 2) (by omega) rfl rfl hp4)
                have HBc4 : Hid (Below w2.heap.size w2 wc4) := Lib.hid (HCc3.out.app_below (i := 2) (by omega) rfl hp4 HBc3.out HBc3.out.size)
                refine hK _ _ (cell_kept HBc4.out HC2.out) ?_
                clear hK K hp4
                iterate 2 (refine Text.bpurek rfl rfl (fun K hK => ⟨_, fun w' => by go_simp <;> rfl, ?_⟩); go_simp; refine hK _ ?_; clear hK K)
                refine Text.bdone ?_
                have HPT := Lib.hid (PartI.right HBT.out HCc4.out HBc4.out HP1.out HP2.out HR2.out)
                go_wp2_with fail
                go_roundw
                case rel => exact ⟨k + 1, by omega, by go_num, HPT⟩
                case measure => simp [intOf]; omega
            | true =>
              have hbb : (bits .and .u64 ((s : Int) / 2 ^ k) 1 == 0) = false := by rw [HBIT.out, hbit]; rfl
              have HBT := Lib.hid hbit
              clear hbit HBIT
              have hsl := sel_le z s true k
              have HML : Hid ((selM m s true k).length ≤ k) := Lib.hid (by rw [sel_length z]; exact sel_le z s true k)
              have hml := HML.out
              go_wp2_with fail
              refine Text.wp_region_bt (fun w' => w'.cell? ⟨g2, o2 + k, none⟩ = some (.slice A2 n2 c2)) (.still 0 4 (.still 1 4 (.still 4 4 (.still 5 4 (.still 6 4 (.still 7 4 (.still 8 0 (.br 2 (.br 3 (.eff 9 (.eff 10 (.still 11 4 (.still 12 4 .leaf)))) 9 (.eff 3 (.eff 10 (.still 11 4 (.still 12 4 .leaf))))) 9 (.eff 2 (.eff 3 (.eff 10 (.still 11 4 (.still 12 4 .leaf))))))))))))) (by kernel_rfl) (by kernel_rfl) (fun _ _ _ _ _ h => h) (hc2') ?_
              obtain ⟨wd, hwd⟩ : ∃ wd : World, wd = wr.drew := ⟨_, rfl⟩
              have HCd : Hid (Ctx w2.heap.size 5 wd (rows5 u15 u16 u17 u18 u13 z m (locP z m d L n s) s k pr po)) := Lib.hid (by rw [hwd]; exact HCX.out.drew)
              have HBd : Hid (Below w2.heap.size w2 wd) := Lib.hid (by rw [hwd]; exact HBX.out.drew)
              have HZd : Hid (w2.heap.size ≤ wd.heap.size) := Lib.hid HBd.out.size
              rw [← hwd]
              clear hwd HCX HBX hc2' hc1
              iterate 6 (refine Text.bpurek rfl rfl (fun K hK => ⟨_, fun w' => by go_simp <;> rfl, ?_⟩); go_simp; refine hK _ ?_; clear hK K)
              have hcd := cell_kept HBd.out HC2.out
              (refine Text.bheldk rfl rfl (fun K hK => ⟨_, fun w' hw' => by go_simp <;> rfl, ?_⟩); go_simp; refine hK _ ?_; clear hK K)
              refine Text.bfork ?_ ?_
              · refine Text.beff rfl rfl (fun K hK => ?_)
                go_simp
                obtain ⟨gI, hgI⟩ : ∃ g, g = wd.heap.size := ⟨_, rfl⟩
                obtain ⟨wa1, hwwa1⟩ : ∃ w' : World, w' = wd.alloc (.cells #[.int .i64 (gN z k : Int)] 3) := ⟨_, rfl⟩
                have kb1 : Below wd.heap.size wd wa1 := by rw [hwwa1]; exact (Below.refl _ _).alloc (Nat.le_refl _) _
                have HGI1 : Hid (Blk wa1 gI 3 #[.int .i64 (gN z k : Int)]) := Lib.hid (by rw [hwwa1, hgI]; exact Blk.new _ _ _)
                have HCa1 := Lib.hid (HCd.out.kept kb1)
                have HBa1 : Hid (Below w2.heap.size w2 wa1) := Lib.hid (below_then HBd.out kb1)
                rw [← hwwa1, ← hgI]
                refine hK _ _ (cell_kept HBa1.out HC2.out) ?_
                clear hK K kb1 hwwa1 hgI
                refine Text.bfork ?_ ?_
                · refine Text.beff rfl rfl (fun K hK => ?_)
                  refine wp_app1 wa1 (.tmp 71) (.tmp 73) 37 3 (.int .i64 0) 8 Try.underlying37 infoInt rfl rfl w2.heap.size u16 (selN z s true k).length ((ints (selN z s true k)).map (Value.int .i64)) rfl (HCa1.out.own 1 (by omega)) gI 1 3 (.int .i64 (gN z k : Int)) rfl HGI1.out rfl (by omega) (by omega) HBa1.out.size ?_
                  intro va2 wa2 hp2
                  have HCa2 := Lib.hid (HCa1.out.app (i := 1) (by omega) rfl rfl hp2)
                  have HBa2 : Hid (Below w2.heap.size w2 wa2) := Lib.hid (HCa1.out.app_below (i := 1) (by omega) rfl hp2 HBa1.out HBa1.out.size)
                  refine hK _ _ (cell_kept HBa2.out HC2.out) ?_
                  clear hK K hp2
                  refine Text.beff rfl rfl (fun K hK => ?_)
                  go_simp
                  obtain ⟨gS, hgS⟩ : ∃ g, g = wa2.heap.size := ⟨_, rfl⟩
                  obtain ⟨wa3, hwwa3⟩ : ∃ w' : World, w' = wa2.alloc (.cells #[.slice A2 n2 c2] 22) := ⟨_, rfl⟩
                  have kb3 : Below wa2.heap.size wa2 wa3 := by rw [hwwa3]; exact (Below.refl _ _).alloc (Nat.le_refl _) _
                  have HGS3 : Hid (Blk wa3 gS 22 #[.slice A2 n2 c2]) := Lib.hid (by rw [hwwa3, hgS]; exact Blk.new _ _ _)
                  have HCa3 := Lib.hid (HCa2.out.kept kb3)
                  have HBa3 : Hid (Below w2.heap.size w2 wa3) := Lib.hid (below_then HBa2.out kb3)
                  rw [← hwwa3, ← hgS]
                  refine hK _ _ (cell_kept HBa3.out HC2.out) ?_
                  clear hK K kb3 hwwa3 hgS
                  refine Text.beff rfl rfl (fun K hK => ?_)
                  refine wp_app1 wa3 (.tmp 75) (.tmp 80) 30 22 (.slice none 0 0) 24 Try.underlying30 infoBytes rfl rfl w2.heap.size u18 (selM m s true k).length po rfl (HCa3.out.own 3 (by omega)) gS 1 22 (.slice A2 n2 c2) rfl HGS3.out rfl (by omega) (by omega) HBa3.out.size ?_
                  intro va4 wa4 hp4
                  have HCa4 := Lib.hid (HCa3.out.app (i := 3) (by omega) rfl rfl hp4)
                  have HBa4 : Hid (Below w2.heap.size w2 wa4) := Lib.hid (HCa3.out.app_below (i := 3) (by omega) rfl hp4 HBa3.out HBa3.out.size)
                  refine hK _ _ (cell_kept HBa4.out HC2.out) ?_
                  clear hK K hp4
                  iterate 2 (refine Text.bpurek rfl rfl (fun K hK => ⟨_, fun w' => by go_simp <;> rfl, ?_⟩); go_simp; refine hK _ ?_; clear hK K)
                  refine Text.bdone ?_
                  have HPT := Lib.hid (PartI.other HBT.out HCa4.out HBa4.out HP1.out HP2.out HR2.out)
                  go_wp2_with fail
                  go_roundw
                  case rel => exact ⟨k + 1, by omega, by go_num, HPT⟩
                  case measure => simp [intOf]; omega
                · refine Text.beff rfl rfl (fun K hK => ?_)
                  go_simp
                  obtain ⟨gS, hgS⟩ : ∃ g, g = wa1.heap.size := ⟨_, rfl⟩
                  obtain ⟨wb2, hwwb2⟩ : ∃ w' : World, w' = wa1.alloc (.cells #[.slice A2 n2 c2] 22) := ⟨_, rfl⟩
                  have kb2 : Below wa1.heap.size wa1 wb2 := by rw [hwwb2]; exact (Below.refl _ _).alloc (Nat.le_refl _) _
                  have HGS2 : Hid (Blk wb2 gS 22 #[.slice A2 n2 c2]) := Lib.hid (by rw [hwwb2, hgS]; exact Blk.new _ _ _)
                  have HGI2 := Lib.hid (HGI1.out.kept kb2)
                  have HCb2 := Lib.hid (HCa1.out.kept kb2)
                  have HBb2 : Hid (Below w2.heap.size w2 wb2) := Lib.hid (below_then HBa1.out kb2)
                  rw [← hwwb2, ← hgS]
                  refine hK _ _ (cell_kept HBb2.out HC2.out) ?_
                  clear hK K kb2 hwwb2 hgS
                  refine Text.beff rfl rfl (fun K hK => ?_)
                  refine wp_app1 wb2 (.tmp 71) (.tmp 73) 37 3 (.int .i64 0) 8 Try.underlying37 infoInt rfl rfl w2.heap.size u16 (selN z s true k).length ((ints (selN z s true k)).map (Value.int .i64)) rfl (HCb2.out.own 1 (by omega)) gI 1 3 (.int .i64 (gN z k : Int)) rfl HGI2.out rfl (by omega) (by omega) HBb2.out.size ?_
                  intro vb3 wb3 hp3
                  have HCb3 := Lib.hid (HCb2.out.app (i := 1) (by omega) rfl rfl hp3)
                  have HBb3 : Hid (Below w2.heap.size w2 wb3) := Lib.hid (HCb2.out.app_below (i := 1) (by omega) rfl hp3 HBb2.out HBb2.out.size)
                  have HGS3 := Lib.hid (grown_blk hp3.2.1 HGS2.out (own_ne (e := 3) (HCb2.out.own 1 (by omega)) HGS2.out (by decide)))
                  refine hK _ _ (cell_kept HBb3.out HC2.out) ?_
                  clear hK K hp3
                  refine Text.beff rfl rfl (fun K hK => ?_)
                  refine wp_app1 wb3 (.tmp 75) (.tmp 80) 30 22 (.slice none 0 0) 24 Try.underlying30 infoBytes rfl rfl w2.heap.size u18 (selM m s true k).length po rfl (HCb3.out.own 3 (by omega)) gS 1 22 (.slice A2 n2 c2) rfl HGS3.out rfl (by omega) (by omega) HBb3.out.size ?_
                  intro vb4 wb4 hp4
                  have HCb4 := Lib.hid (HCb3.out.app (i := 3) (by omega) rfl rfl hp4)
                  have HBb4 : Hid (Below w2.heap.size w2 wb4) := Lib.hid (HCb3.out.app_below (i := 3) (by omega) rfl hp4 HBb3.out HBb3.out.size)
                  refine hK _ _ (cell_kept HBb4.out HC2.out) ?_
                  clear hK K hp4
                  iterate 2 (refine Text.bpurek rfl rfl (fun K hK => ⟨_, fun w' => by go_simp <;> rfl, ?_⟩); go_simp; refine hK _ ?_; clear hK K)
                  refine Text.bdone ?_
                  have HPT := Lib.hid (PartI.other HBT.out HCb4.out HBb4.out HP1.out HP2.out HR2.out)
                  go_wp2_with fail
                  go_roundw
                  case rel => exact ⟨k + 1, by omega, by go_num, HPT⟩
                  case measure => simp [intOf]; omega
              · refine Text.beff rfl rfl (fun K hK => ?_)
                go_simp
                obtain ⟨gS, hgS⟩ : ∃ g, g = wd.heap.size := ⟨_, rfl⟩
                obtain ⟨wc1, hwwc1⟩ : ∃ w' : World, w' = wd.alloc (.cells #[.slice A2 n2 c2] 22) := ⟨_, rfl⟩
                have kb1 : Below wd.heap.size wd wc1 := by rw [hwwc1]; exact (Below.refl _ _).alloc (Nat.le_refl _) _
                have HGS1 : Hid (Blk wc1 gS 22 #[.slice A2 n2 c2]) := Lib.hid (by rw [hwwc1, hgS]; exact Blk.new _ _ _)
                have HCc1 := Lib.hid (HCd.out.kept kb1)
                have HBc1 : Hid (Below w2.heap.size w2 wc1) := Lib.hid (below_then HBd.out kb1)
                rw [← hwwc1, ← hgS]
                refine hK _ _ (cell_kept HBc1.out HC2.out) ?_
                clear hK K kb1 hwwc1 hgS
                refine Text.beff rfl rfl (fun K hK => ?_)
                go_simp
                obtain ⟨gI, hgI⟩ : ∃ g, g = wc1.heap.size := ⟨_, rfl⟩
                obtain ⟨wc2, hwwc2⟩ : ∃ w' : World, w' = wc1.alloc (.cells #[.int .i64 (gN z k : Int)] 3) := ⟨_, rfl⟩
                have kb2 : Below wc1.heap.size wc1 wc2 := by rw [hwwc2]; exact (Below.refl _ _).alloc (Nat.le_refl _) _
                have HGI2 : Hid (Blk wc2 gI 3 #[.int .i64 (gN z k : Int)]) := Lib.hid (by rw [hwwc2, hgI]; exact Blk.new _ _ _)
                have HGS2 := Lib.hid (HGS1.out.kept kb2)
                have HCc2 := Lib.hid (HCc1.out.kept kb2)
                have HBc2 : Hid (Below w2.heap.size w2 wc2) := Lib.hid (below_then HBc1.out kb2)
                rw [← hwwc2, ← hgI]
                refine hK _ _ (cell_kept HBc2.out HC2.out) ?_
                clear hK K kb2 hwwc2 hgI
                refine Text.beff rfl rfl (fun K hK => ?_)
                refine wp_app1 wc2 (.tmp 71) (.tmp 73) 37 3 (.int .i64 0) 8 Try.underlying37 infoInt rfl rfl w2.heap.size u16 (selN z s true k).length ((ints (selN z s true k)).map (Value.int .i64)) rfl (HCc2.out.own 1 (by omega)) gI 1 3 (.int .i64 (gN z k : Int)) rfl HGI2.out rfl (by omega) (by omega) HBc2.out.size ?_
                intro vc3 wc3 hp3
                have HCc3 := Lib.hid (HCc2.out.app (i := 1) (by omega) rfl rfl hp3)
                have HBc3 : Hid (Below w2.heap.size w2 wc3) := Lib.hid (HCc2.out.app_below (i := 1) (by omega) rfl hp3 HBc2.out HBc2.out.size)
                have HGS3 := Lib.hid (grown_blk hp3.2.1 HGS2.out (own_ne (e := 3) (HCc2.out.own 1 (by omega)) HGS2.out (by decide)))
                refine hK _ _ (cell_kept HBc3.out HC2.out) ?_
                clear hK K hp3
                refine Text.beff rfl rfl (fun K hK => ?_)
                refine wp_app1 wc3 (.tmp 75) (.tmp 80) 30 22 (.slice none 0 0) 24 Try.underlying30 infoBytes rfl rfl w2.heap.size u18 (selM m s true k).length po rfl (HCc3.out.own 3 (by omega)) gS 1 22 (.slice A2 n2 c2) rfl HGS3.out rfl (by omega) (by omega) HBc3.out.size ?_
                intro vc4 wc4 hp4
                have HCc4 := Lib.hid (HCc3.out.app (i := 3) (by omega) rfl rfl hp4)
                have HBc4 : Hid (Below w2.heap.size w2 wc4) := Lib.hid (HCc3.out.app_below (i := 3) (by omega) rfl hp4 HBc3.out HBc3.out.size)
                refine hK _ _ (cell_kept HBc4.out HC2.out) ?_
                clear hK K hp4
                iterate 2 (refine Text.bpurek rfl rfl (fun K hK => ⟨_, fun w' => by go_simp <;> rfl, ?_⟩); go_simp; refine hK _ ?_; clear hK K)
                refine Text.bdone ?_
                have HPT := Lib.hid (PartI.other HBT.out HCc4.out HBc4.out HP1.out HP2.out HR2.out)
                go_wp2_with fail
                go_roundw
                case rel => exact ⟨k + 1, by omega, by go_num, HPT⟩
                case measure => simp [intOf]; omega
          · obtain rfl : k = n := by omega
            obtain ⟨pr, po, hc, hb, hp1, hp2⟩ := hpt.out
            have hsum := sel_sum z s k
            have hpc := sel_popc z s k (by omega) (by rw [← HN.out]; exact hlt)
            have hplen := locP_length z m d L k s
            have hpll := hI.out.2.2
            have hRr : Reg d (selN z s false k) := HREG.out s (by rw [← HN.out]; exact hlt) (by rw [← HP.out, ← HX.out]; exact HPX.out)
            have hrr := selM_rect hrect HMl.out s false
            have hRl := selN_lt hz s false
            have hOl := selN_lt hz s true
            obtain ⟨nr, hnr⟩ : ∃ nr, nr = (selN z s false k).length := ⟨_, rfl⟩
            obtain ⟨no, hno⟩ : ∃ no, no = (selN z s true k).length := ⟨_, rfl⟩
            have hnp : no = popc s := by rw [hno, hpc]
            have hnx : no = x := by rw [hno, hpc, ← HP.out, HPX.out]
            have hnrs : nr + no = k := by rw [hnr, hno]; exact hsum
            have hdr : d ≤ nr := by have := HX.out; omega
            have HST := Lib.hid (show locR z k s = selN z s false k from rfl)
            have hlp : locP z m d L k (s + 1) = if popc s = (k - d) / 2 ∧ fitB (selM m s false k) (facM d (selN z s false k) ((selN z s false k).drop d)) d ((selN z s false k).length - d) (locP z m d L k s) = true ∧ 0 ≤ cfl (selM m s false k) (facM d (selN z s false k) ((selN z s false k).drop d)) d L ((selN z s false k).length - d) then
                locP z m d L k s ++ [(cfl (selM m s false k) (facM d (selN z s false k) ((selN z s false k).drop d)) d L ((selN z s false k).length - d)).toNat] else locP z m d L k s := rfl
            have hlh : locH z m d L k s = (decide (popc s = (k - d) / 2) && fitB (selM m s false k) (facM d (selN z s false k) ((selN z s false k).drop d)) d ((selN z s false k).length - d) (locP z m d L k s) && decide (cfl (selM m s false k) (facM d (selN z s false k) ((selN z s false k).drop d)) d L ((selN z s false k).length - d) < 0)) := rfl
            have hlo : locO z m d L k s = isort (ints (difs (selM m s false k) (facM d (selN z s false k) (selN z s true k)) (selN z s true k) (selM m s true k) L (popc s))) := rfl
            have hps : popc s = (k - d) / 2 := by rw [← HP.out, ← HX.out]; exact HPX.out
            have hrpl : (selM m s false k).length = nr := by rw [hnr, sel_length z]
            have hopl : (selM m s true k).length = no := by rw [hno, sel_length z]
            obtain ⟨A3, c3, rfl, hi3⟩ := hc.is (i := 0) (by omega) (v := u15) (n := nr) (z := ints (selN z s false k)) (by rw [hnr]; rfl) (by unfold lim; omega)
            obtain ⟨A4, c4, rfl, hi4⟩ := hc.is (i := 1) (by omega) (v := u16) (n := no) (z := ints (selN z s true k)) (by rw [hno]; rfl) (by unfold lim; omega)
            obtain ⟨A5, c5, rfl, hm5⟩ := hc.ms hb (i := 2) (by omega) (v := u17) (n := nr) (ps := pr) (m := selM m s false k) (by rw [hnr, ← sel_length z m s false k]; rfl) hp1 hrpl (by unfold lim; omega)
            obtain ⟨A6, c6, rfl, hm6⟩ := hc.ms hb (i := 3) (by omega) (v := u18) (n := no) (ps := po) (m := selM m s true k) (by rw [hno, ← sel_length z m s true k]; rfl) hp2 hopl (by unfold lim; omega)
            have hplr := hc.own 4 (by omega)
            obtain ⟨np, hnp'⟩ : ∃ np, np = (locP z m d L k s).length := ⟨_, rfl⟩
            obtain ⟨A7, c7, e7, hi7⟩ := hc.is (i := 4) (by omega) (v := u13) (n := np) (z := ints (locP z m d L k s)) (by rw [hnp']; rfl) (by have := HS256.out; unfold lim; omega)
            have hnp9 : (np : Int) < 256 := by have := HS256.out; omega
            simp only [rows5] at hplr
            rw [← hnp'] at hplr
            obtain ⟨R, hR⟩ : ∃ R, R = selN z s false k := ⟨_, rfl⟩
            obtain ⟨O, hO⟩ : ∃ O, O = selN z s true k := ⟨_, rfl⟩
            obtain ⟨rp, hrp⟩ : ∃ rp, rp = selM m s false k := ⟨_, rfl⟩
            obtain ⟨op, hop⟩ : ∃ op, op = selM m s true k := ⟨_, rfl⟩
            obtain ⟨pl, hpl⟩ : ∃ pl, pl = locP z m d L k s := ⟨_, rfl⟩
            rw [← hR] at hRr hRl hi3 hlp hlh hlo hnr
            rw [← hO] at hOl hi4 hlo hno
            rw [← hrp] at hrr hm5 hlp hlh hlo hrpl
            rw [← hop] at hm6 hlo hopl
            rw [← hpl] at hpll hplr hi7 hlp hlh hnp'
            rw [← hnr] at hlp hlh
            obtain ⟨F, hF⟩ : ∃ F, F = facM d R (R.drop d) := ⟨_, rfl⟩
            have hFr : Rect F d := by rw [hF]; exact facM_rect (by rw [← hnr]; exact hdr)
            have hFl : F.length = nr - d := by rw [hF, facM_length, List.length_drop, ← hnr]
            rw [← hF] at hlp hlh
            have hpF : ∀ i, i < nr - d → (prd rp (gR F i) L).length = L := fun i hi => prd_length hrr hrpl (by rw [hFr i (by rw [hFl]; exact hi)]; exact hdr)
            have hcb := cfl_bound (d := d) hrr hrpl hL (nr - d) (by omega) hpF
            have hcl := cfl_lt (d := d) hrr hrpl hL0 (nr - d) (by omega) hpF
            obtain ⟨q, hq⟩ : ∃ q, q = cfl rp F d L (nr - d) := ⟨_, rfl⟩
            rw [← hq] at hcb hcl hlp hlh
            obtain ⟨fb, hfb⟩ : ∃ fb, fb = fitB rp F d (nr - d) pl := ⟨_, rfl⟩
            rw [← hfb] at hlp hlh
            obtain ⟨hcb1, hcb2⟩ := hcb
            have HCF : Hid (∀ A' c', (0 < nr - d → IS wr A' (nr - d) c' (ints (R.drop d))) → Calls Try.prog 41 #[.pointer (some ⟨gt, 0, none⟩), .slice A3 nr c3, .slice A' (nr - d) c'] wr (FacRet F (nr - d) wr)) := Lib.hid (fun A' c' h' => by
              rw [hF]
              exact factors_gen gt d A3 A' nr (nr - d) c3 c' R (R.drop d) wr (HT.out.kept hb) hd8 hd hi3 (fun i hi => hRl i (by omega)) hdr (by rw [List.length_drop, ← hnr]) h' (fun i hi => by rw [gN_drop]; exact hRl _ (by omega)) (by omega) hRr)
            have HD : Hid (c3 ≠ d → 0 < nr - d → IS wr (A3.map fun x => x.add d) (nr - d) (c3 - d) (ints (R.drop d))) := Lib.hid (fun h1 h2 => IS.drop hi3 hd (by omega))
            have HZ3 : Hid (c3 = d → nr - d = 0) := Lib.hid (fun e => by have := hi3.2.1; omega)
            have hnrl := hi3.2.1
            have HRE := Lib.hid hRr
            have HRL := Lib.hid hRl
            have HOL := Lib.hid hOl
            have HI3 := Lib.hid hi3
            have HI4 := Lib.hid hi4
            have HM5 := Lib.hid hm5
            have HM6 := Lib.hid hm6
            have HI7 := Lib.hid hi7
            have HLP := Lib.hid hlp
            have HLH := Lib.hid hlh
            have HLO := Lib.hid hlo
            have HPS := Lib.hid hps
            have HPL := Lib.hid hpll
            have HRR := Lib.hid hrr
            have HFR := Lib.hid hFr
            have HQ := Lib.hid hq
            have HFB := Lib.hid hfb
            have HNR := Lib.hid hnr
            have HNO := Lib.hid hno
            have HNP := Lib.hid hnp
            have HNP' := Lib.hid hnp'
            have HPR := Lib.hid hplr
            have HPL2 : Hid (∀ i, i < np → gN pl i < L) := Lib.hid (fun i hi => hpll i (by rw [← hnp']; exact hi))
            have HRL2 : Hid (∀ i, i < nr → gN R i < 16) := Lib.hid (fun i hi => hRl i (by rw [← hnr]; exact hi))
            have HOL2 : Hid (∀ i, i < no → gN O i < 16) := Lib.hid (fun i hi => hOl i (by rw [← hno]; exact hi))
            have HDL : Hid (d ≤ R.length) := Lib.hid (by rw [← hnr]; exact hdr)
            have HBW := Lib.hid hb
            have HLI := Lib.hid (show nr ≤ 8 ∧ no ≤ 8 by omega)
            have HNB : Hid ((np + 1) * 8 ≤ 140737488355328 ∧ np < 140737488355328) := Lib.hid (by omega)
            have HR64 : Hid (d ≤ 64 ∧ d + (nr - d) ≤ nr ∧ nr ≤ 64 ∧ no ≤ 64) := Lib.hid (by omega)
            have hnk8 := HLI.out.1
            obtain ⟨nk, hnk⟩ : ∃ nk, nk = nr - d := ⟨_, rfl⟩
            have HNK := Lib.hid hnk
            have hxx : ((nr : Int) - (d : Int)) = (nk : Int) := by omega
            clear hsum hpc hc hp1 hp2 hRr hRl hOl hi3 hi4 hm5 hm6 hi7 hlp hlh hlo hps hpll hrr hFr hFl hpF hq hfb hnr hno hnx hnp hnrs hplr hb hR hO hrp hop hpl hF hrpl hopl hpt hI hplen hnp'
            subst e7
            rw [← HNK.out] at HCF HD HZ3 HQ HFB HR64
            clear hxx hnk
            by_cases hcd : c3 = d
            · have HZK : Hid (nk = 0) := Lib.hid (HZ3.out hcd)
              clear HZ3 HD
              have hcd' := hcd.symm
              clear hcd
              subst hcd'
              have HCF0 : Hid (Calls Try.prog 41 #[.pointer (some ⟨gt, 0, none⟩), .slice A3 nr d, .slice A3 0 0] wr (FacRet F nk wr)) := Lib.hid (by
                have := HCF.out A3 0 (fun h0 => absurd h0 (by rw [HZK.out]; omega))
                rw [HZK.out] at this ⊢
                exact this)
              clear HCF
              go_wp2_with fail
              refine HCF0.out.mono ?_
              rintro e w3 ⟨A8, c8, rfl, hm8, hb8⟩
              have HM8 := Lib.hid hm8
              have HB8 := Lib.hid hb8
              clear hm8 hb8
              go_wp2_with fail
              refine (fits_any A5 A8 A7 nr c5 nk c8 np c7 rp F pl d L w3 (HM5.out.kept HB8.out) HM8.out (HI7.out.kept HB8.out) HRR.out hL HFR.out hd HR64.out.1 HR64.out.2.1 HR64.out.2.2.1 HPL2.out).mono ?_
              rintro e w4 ⟨rfl, hb4⟩
              rw [← HFB.out]
              have HB4 : Hid (Below wr.heap.size wr w4) := Lib.hid (below_then HB8.out hb4)
              have HM84 := Lib.hid (HM8.out.kept hb4)
              clear hb4
              cases hf : fb with
              | false =>
                have HRD : Hid (LocI L w2 (locP z m d L k (s + 1)) (.slice A7 np c7) w4 ∧ ∀ s', s' < s + 1 → locH z m d L k s' = false) := by
                  refine Lib.hid ⟨?_, fun s' hs' => ?_⟩
                  · rw [HLP.out, if_neg (fun h => by rw [hf] at h; cases h.2.1)]
                    refine ⟨?_, below_then HBW.out HB4.out, HPL.out⟩
                    rw [← HNP'.out]
                    exact Kp.own (S := fun _ => False) (Kp.of_below HB4.out) HPR.out (fun _ _ => id)
                  · by_cases e : s' = s
                    · subst e; rw [HLH.out, hf]; simp
                    · exact hH.out s' (by omega)
                clear hf
                go_wp2_with fail
                go_roundw
                case rel => exact ⟨s + 1, by omega, by go_num, Lib.hid HRD.out.1, Lib.hid HRD.out.2⟩
                case measure => simp [intOf]; omega
              | true =>
                have HF1 := Lib.hid hf
                clear hf
                go_wp2_with fail
                refine (conflict_any A5 A8 nr c5 nk c8 rp F d L w4 (HM5.out.kept HB4.out) HM84.out HRR.out hL HFR.out hd HR64.out.1 HR64.out.2.1 HR64.out.2.2.1).mono ?_
                rintro e w5 ⟨rfl, hb5⟩
                rw [← HQ.out]
                have HB5 : Hid (Below wr.heap.size wr w5) := Lib.hid (below_then HB4.out hb5)
                clear hb5
                by_cases hq0 : q < 0
                · have HHit : Hid (locH z m d L k s = true) := Lib.hid (by rw [HLH.out, HF1.out, decide_eq_true HPS.out, decide_eq_true hq0]; rfl)
                  go_wp2_with fail
                  refine (factors_gen gt d A3 A4 nr no d c4 R O w5 ((HT.out.kept HBW.out).kept HB5.out) hd8 hd (HI3.out.kept HB5.out) HRL2.out hdr HNO.out.symm (fun _ => HI4.out.kept HB5.out) HOL2.out HR64.out.2.2.2 HRE.out).mono ?_
                  rintro e w6 ⟨A9, c9, rfl, hm9, hb9⟩
                  have HM9 := Lib.hid hm9
                  have HB9 : Hid (Below wr.heap.size wr w6) := Lib.hid (below_then HB5.out hb9)
                  clear hm9 hb9
                  go_wp2_with fail
                  refine (differing_any A5 A9 A4 A6 nr c5 no c9 c4 c6 rp (facM d R O) O op d L w6 (HM5.out.kept HB9.out) HM9.out (HI4.out.kept HB9.out) (HM6.out.kept HB9.out) HRR.out hL (facM_rect HDL.out) hd HR64.out.1 hdr HR64.out.2.2.2).mono ?_
                  rintro e w7 ⟨v7, q7, rfl, hq7, ho7, hb7⟩
                  have HB7 : Hid (Below w.heap.size w w7) := Lib.hid (below_then HB2.out (below_then HBW.out (below_then HB9.out hb7)))
                  have HSZ : Hid (w.heap.size ≤ w6.heap.size) := Lib.hid (below_then HB2.out (below_then HBW.out HB9.out)).size
                  have HO7 := Lib.hid ho7
                  have HQ7 := Lib.hid hq7
                  clear ho7 hb7 hq7
                  go_wp2_with fail
                  go_ret2
                  refine ⟨HB7.out, .inl ⟨s, by rw [← HN.out]; exact hlt, HHit.out, hH.out, v7, rfl, ?_⟩⟩
                  rw [HLO.out, ← HNP.out, isort_length, ints_length, ← HQ7.out]
                  exact ownsRow_base HO7.out HSZ.out
                · obtain ⟨qn, hqn⟩ : ∃ qn : Nat, q = (qn : Int) := ⟨q.toNat, by omega⟩
                  have HMiss : Hid (locH z m d L k s = false) := Lib.hid (by rw [HLH.out, decide_eq_false hq0]; simp)
                  have HNext : Hid (locP z m d L k (s + 1) = pl ++ [qn]) := Lib.hid (by rw [HLP.out, if_pos ⟨HPS.out, HF1.out, by omega⟩, hqn]; rfl)
                  have hqL : qn < L := by omega
                  clear HQ
                  subst hqn
                  have HOW5 := Lib.hid (Kp.own (S := fun _ => False) (Kp.of_below HB5.out) HPR.out (fun _ _ => id))
                  have hbA : Below w5.heap.size w5 (w5.alloc (.cells #[.int .i64 (qn : Int)] 3)) := (Below.refl _ _).alloc (Nat.le_refl _) _
                  have HOW := Lib.hid (Kp.own (S := fun _ => False) (Kp.of_below hbA) HOW5.out (fun _ _ => id))
                  have HBA := Lib.hid hbA
                  have HB25 : Hid (Below w2.heap.size w2 w5) := Lib.hid (below_then HBW.out HB5.out)
                  have HSZ5 : Hid (w2.heap.size ≤ w5.heap.size) := Lib.hid HB25.out.size
                  have HQL := Lib.hid hqL
                  have hq0' : decide ((qn : Int) < 0) = false := by simp
                  clear hbA hqL hcb1 hcb2 hcl hL hq0
                  go_wp2_with (first
                    | (at_builtin; refine wpList_app1 _ rfl (.tmp 107) (.tmp 109) 37 3 (.int .i64 0) 8 Try.underlying37 infoInt rfl rfl w2.heap.size _ np ((ints pl).map (Value.int .i64)) rfl HOW.out w5.heap.size 1 3 (.int .i64 (qn : Int)) rfl (Blk.new w5 _ _) rfl HNB.out.1 HNB.out.2 (Nat.le_trans HSZ5.out HBA.out.size) ?_; intro v8 w8 hp8))
                  have HRD : Hid (LocI L w2 (locP z m d L k (s + 1)) v8 w8 ∧ ∀ s', s' < s + 1 → locH z m d L k s' = false) := by
                    refine Lib.hid ⟨?_, fun s' hs' => ?_⟩
                    · rw [HNext.out]
                      refine ⟨?_, (below_thenB HB25.out HSZ5.out HBA.out).grown hp8.2.1 (Nat.le_trans HSZ5.out HBA.out.size) (fun b hb' => own_base HOW5.out b hb'), fun i hi => ?_⟩
                      · rw [List.length_append, ← HNP'.out, ints_map_append]; exact hp8.1
                      · by_cases e : i < pl.length
                        · rw [gN, List.getD_eq_getElem?_getD, List.getElem?_append_left e, ← List.getD_eq_getElem?_getD]; exact HPL.out i e
                        · have : i = pl.length := by simp at hi; omega
                          subst this
                          rw [gN, List.getD_eq_getElem?_getD, List.getElem?_append_right (Nat.le_refl _)]; simpa using HQL.out
                    · by_cases e : s' = s
                      · subst e; exact HMiss.out
                      · exact hH.out s' (by omega)
                  clear hp8
                  go_roundw
                  case rel => exact ⟨s + 1, by omega, by go_num, Lib.hid HRD.out.1, Lib.hid HRD.out.2⟩
                  case measure => simp [intOf]; omega
            · have HDD := Lib.hid (HD.out hcd)
              clear HZ3 HD
              go_wp2_with fail
              rw [← HNK.out]
              refine (HCF.out _ _ HDD.out).mono ?_
              rintro e w3 ⟨A8, c8, rfl, hm8, hb8⟩
              have HM8 := Lib.hid hm8
              have HB8 := Lib.hid hb8
              clear hm8 hb8
              go_wp2_with fail
              refine (fits_any A5 A8 A7 nr c5 nk c8 np c7 rp F pl d L w3 (HM5.out.kept HB8.out) HM8.out (HI7.out.kept HB8.out) HRR.out hL HFR.out hd HR64.out.1 HR64.out.2.1 HR64.out.2.2.1 HPL2.out).mono ?_
              rintro e w4 ⟨rfl, hb4⟩
              rw [← HFB.out]
              have HB4 : Hid (Below wr.heap.size wr w4) := Lib.hid (below_then HB8.out hb4)
              have HM84 := Lib.hid (HM8.out.kept hb4)
              clear hb4
              cases hf : fb with
              | false =>
                have HRD : Hid (LocI L w2 (locP z m d L k (s + 1)) (.slice A7 np c7) w4 ∧ ∀ s', s' < s + 1 → locH z m d L k s' = false) := by
                  refine Lib.hid ⟨?_, fun s' hs' => ?_⟩
                  · rw [HLP.out, if_neg (fun h => by rw [hf] at h; cases h.2.1)]
                    refine ⟨?_, below_then HBW.out HB4.out, HPL.out⟩
                    rw [← HNP'.out]
                    exact Kp.own (S := fun _ => False) (Kp.of_below HB4.out) HPR.out (fun _ _ => id)
                  · by_cases e : s' = s
                    · subst e; rw [HLH.out, hf]; simp
                    · exact hH.out s' (by omega)
                clear hf
                go_wp2_with fail
                go_roundw
                case rel => exact ⟨s + 1, by omega, by go_num, Lib.hid HRD.out.1, Lib.hid HRD.out.2⟩
                case measure => simp [intOf]; omega
              | true =>
                have HF1 := Lib.hid hf
                clear hf
                go_wp2_with fail
                refine (conflict_any A5 A8 nr c5 nk c8 rp F d L w4 (HM5.out.kept HB4.out) HM84.out HRR.out hL HFR.out hd HR64.out.1 HR64.out.2.1 HR64.out.2.2.1).mono ?_
                rintro e w5 ⟨rfl, hb5⟩
                rw [← HQ.out]
                have HB5 : Hid (Below wr.heap.size wr w5) := Lib.hid (below_then HB4.out hb5)
                clear hb5
                by_cases hq0 : q < 0
                · have HHit : Hid (locH z m d L k s = true) := Lib.hid (by rw [HLH.out, HF1.out, decide_eq_true HPS.out, decide_eq_true hq0]; rfl)
                  go_wp2_with fail
                  refine (factors_gen gt d A3 A4 nr no c3 c4 R O w5 ((HT.out.kept HBW.out).kept HB5.out) hd8 hd (HI3.out.kept HB5.out) HRL2.out hdr HNO.out.symm (fun _ => HI4.out.kept HB5.out) HOL2.out HR64.out.2.2.2 HRE.out).mono ?_
                  rintro e w6 ⟨A9, c9, rfl, hm9, hb9⟩
                  have HM9 := Lib.hid hm9
                  have HB9 : Hid (Below wr.heap.size wr w6) := Lib.hid (below_then HB5.out hb9)
                  clear hm9 hb9
                  go_wp2_with fail
                  refine (differing_any A5 A9 A4 A6 nr c5 no c9 c4 c6 rp (facM d R O) O op d L w6 (HM5.out.kept HB9.out) HM9.out (HI4.out.kept HB9.out) (HM6.out.kept HB9.out) HRR.out hL (facM_rect HDL.out) hd HR64.out.1 hdr HR64.out.2.2.2).mono ?_
                  rintro e w7 ⟨v7, q7, rfl, hq7, ho7, hb7⟩
                  have HB7 : Hid (Below w.heap.size w w7) := Lib.hid (below_then HB2.out (below_then HBW.out (below_then HB9.out hb7)))
                  have HSZ : Hid (w.heap.size ≤ w6.heap.size) := Lib.hid (below_then HB2.out (below_then HBW.out HB9.out)).size
                  have HO7 := Lib.hid ho7
                  have HQ7 := Lib.hid hq7
                  clear ho7 hb7 hq7
                  go_wp2_with fail
                  go_ret2
                  refine ⟨HB7.out, .inl ⟨s, by rw [← HN.out]; exact hlt, HHit.out, hH.out, v7, rfl, ?_⟩⟩
                  rw [HLO.out, ← HNP.out, isort_length, ints_length, ← HQ7.out]
                  exact ownsRow_base HO7.out HSZ.out
                · obtain ⟨qn, hqn⟩ : ∃ qn : Nat, q = (qn : Int) := ⟨q.toNat, by omega⟩
                  have HMiss : Hid (locH z m d L k s = false) := Lib.hid (by rw [HLH.out, decide_eq_false hq0]; simp)
                  have HNext : Hid (locP z m d L k (s + 1) = pl ++ [qn]) := Lib.hid (by rw [HLP.out, if_pos ⟨HPS.out, HF1.out, by omega⟩, hqn]; rfl)
                  have hqL : qn < L := by omega
                  clear HQ
                  subst hqn
                  have HOW5 := Lib.hid (Kp.own (S := fun _ => False) (Kp.of_below HB5.out) HPR.out (fun _ _ => id))
                  have hbA : Below w5.heap.size w5 (w5.alloc (.cells #[.int .i64 (qn : Int)] 3)) := (Below.refl _ _).alloc (Nat.le_refl _) _
                  have HOW := Lib.hid (Kp.own (S := fun _ => False) (Kp.of_below hbA) HOW5.out (fun _ _ => id))
                  have HBA := Lib.hid hbA
                  have HB25 : Hid (Below w2.heap.size w2 w5) := Lib.hid (below_then HBW.out HB5.out)
                  have HSZ5 : Hid (w2.heap.size ≤ w5.heap.size) := Lib.hid HB25.out.size
                  have HQL := Lib.hid hqL
                  have hq0' : decide ((qn : Int) < 0) = false := by simp
                  clear hbA hqL hcb1 hcb2 hcl hL hq0
                  go_wp2_with (first
                    | (at_builtin; refine wpList_app1 _ rfl (.tmp 107) (.tmp 109) 37 3 (.int .i64 0) 8 Try.underlying37 infoInt rfl rfl w2.heap.size _ np ((ints pl).map (Value.int .i64)) rfl HOW.out w5.heap.size 1 3 (.int .i64 (qn : Int)) rfl (Blk.new w5 _ _) rfl HNB.out.1 HNB.out.2 (Nat.le_trans HSZ5.out HBA.out.size) ?_; intro v8 w8 hp8))
                  have HRD : Hid (LocI L w2 (locP z m d L k (s + 1)) v8 w8 ∧ ∀ s', s' < s + 1 → locH z m d L k s' = false) := by
                    refine Lib.hid ⟨?_, fun s' hs' => ?_⟩
                    · rw [HNext.out]
                      refine ⟨?_, (below_thenB HB25.out HSZ5.out HBA.out).grown hp8.2.1 (Nat.le_trans HSZ5.out HBA.out.size) (fun b hb' => own_base HOW5.out b hb'), fun i hi => ?_⟩
                      · rw [List.length_append, ← HNP'.out, ints_map_append]; exact hp8.1
                      · by_cases e : i < pl.length
                        · rw [gN, List.getD_eq_getElem?_getD, List.getElem?_append_left e, ← List.getD_eq_getElem?_getD]; exact HPL.out i e
                        · have : i = pl.length := by simp at hi; omega
                          subst this
                          rw [gN, List.getD_eq_getElem?_getD, List.getElem?_append_right (Nat.le_refl _)]; simpa using HQL.out
                    · by_cases e : s' = s
                      · subst e; exact HMiss.out
                      · exact hH.out s' (by omega)
                  clear hp8
                  go_roundw
                  case rel => exact ⟨s + 1, by omega, by go_num, Lib.hid HRD.out.1, Lib.hid HRD.out.2⟩
                  case measure => simp [intOf]; omega
      · have hb1 : ((p : Int) != (x : Int)) = true := by simp; omega
        have HR : Hid (LocI L w2 (locP z m d L n (s + 1)) u13 wr ∧ ∀ s', s' < s + 1 → locH z m d L n s' = false) := by
          have e1 : popc s ≠ (n - d) / 2 := by rw [← HP.out, ← HX.out]; exact hpx
          refine Lib.hid ⟨?_, fun s' hs' => ?_⟩
          · rw [locP, if_neg (fun h => e1 h.1)]; exact hI.out
          · by_cases e : s' = s
            · subst e; simp [locH, e1]
            · exact hH.out s' (by omega)
        clear hpx
        go_wp2_with fail
        refine HC.out.mono ?_
        rintro e w3 ⟨rfl, rfl⟩
        go_wp2_with fail
        go_roundw
        case rel => exact ⟨s + 1, by omega, by go_num, Lib.hid HR.out.1, Lib.hid HR.out.2⟩
        case measure => simp [intOf]; omega
    · obtain rfl : s = N := by omega
      go_wp2_with fail
      go_ret2
      exact ⟨below_then HB2.out hI.out.2.1, .inr ⟨fun s hs => hH.out s (by rw [HN.out]; exact hs), rfl⟩⟩
end Go.Proofs.Ytoeeklkebcgmaaa
