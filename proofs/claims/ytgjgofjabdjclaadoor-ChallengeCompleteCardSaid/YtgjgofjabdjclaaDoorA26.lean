/- Several texts in one: Mt0, Mt1, Mt2. -/
import Derived.Test.YtgjgofjabdjclaaDoorA24
import Derived.Test.YtgjgofjabdjclaaDoorA16
import Derived.Test.YtgjgofjabdjclaaDoorA3
/- The tree over leaves, plainly: its root, a leaf's path from above, and that the path leads to the root. -/
namespace Go.Proofs.YtgjgofjabdjclaaDoor
open Go Go.RowKit Gf Sha

/-- The root of leaves (at least one), by fuel. -/
def rtF : Nat → List (List UInt8) → List UInt8
  | 0, _ => []
  | f + 1, L => if L.length ≤ 1 then gR L 0 else mnode (rtF f (L.take (spl L.length))) (rtF f (L.drop (spl L.length)))
def rt (L : List (List UInt8)) : List UInt8 := rtF L.length L
theorem rtF_fuel : ∀ (f g : Nat) (L : List (List UInt8)), 1 ≤ L.length → L.length ≤ 256 → L.length ≤ f → L.length ≤ g → rtF f L = rtF g L := by
  intro f
  induction f with
  | zero => intro g L h1 h2 h3 h4; omega
  | succ f ih =>
    intro g L h1 h2 h3 h4
    obtain ⟨g, rfl⟩ : ∃ k, g = k + 1 := ⟨g - 1, by omega⟩
    rw [rtF, rtF]
    split
    · rfl
    · rename_i h5
      obtain ⟨s1, s2, s3, _, _⟩ := spl_parts (n := L.length) (by omega) h2
      rw [ih g (L.take (spl L.length)) (by rw [List.length_take]; omega) (by rw [List.length_take]; omega) (by rw [List.length_take]; omega) (by rw [List.length_take]; omega),
        ih g (L.drop (spl L.length)) (by rw [List.length_drop]; omega) (by rw [List.length_drop]; omega) (by rw [List.length_drop]; omega) (by rw [List.length_drop]; omega)]
theorem rt_one {L : List (List UInt8)} (h : L.length = 1) : rt L = gR L 0 := by rw [rt, h, rtF, if_pos (by omega)]
theorem rt_two {L : List (List UInt8)} (h : 2 ≤ L.length) (h2 : L.length ≤ 256) : rt L = mnode (rt (L.take (spl L.length))) (rt (L.drop (spl L.length))) := by
  obtain ⟨s1, s2, s3, _, _⟩ := spl_parts h h2
  obtain ⟨f, hf⟩ : ∃ f, L.length = f + 1 := ⟨L.length - 1, by omega⟩
  have e : rt L = rtF (f + 1) L := by rw [rt, hf]
  rw [e, rtF, if_neg (by omega), rt, rt]
  rw [rtF_fuel f (L.take (spl L.length)).length (L.take (spl L.length)) (by rw [List.length_take]; omega) (by rw [List.length_take]; omega) (by rw [List.length_take]; omega) (by rw [List.length_take]; omega),
    rtF_fuel f (L.drop (spl L.length)).length (L.drop (spl L.length)) (by rw [List.length_drop]; omega) (by rw [List.length_drop]; omega) (by rw [List.length_drop]; omega) (by rw [List.length_drop]; omega)]
/-- All leaves have this length. -/
def Lv (L : List (List UInt8)) : Prop := ∀ x ∈ L, x.length = 32
theorem Lv.get {L : List (List UInt8)} (h : Lv L) {k : Nat} (hk : k < L.length) : (gR L k).length = 32 := by rw [gR_eq hk]; exact h _ (List.getElem_mem hk)
theorem Lv.take {L : List (List UInt8)} (h : Lv L) (k : Nat) : Lv (L.take k) := fun x hx => h x (List.mem_of_mem_take hx)
theorem Lv.drop {L : List (List UInt8)} (h : Lv L) (k : Nat) : Lv (L.drop k) := fun x hx => h x (List.mem_of_mem_drop hx)
theorem rt_length {L : List (List UInt8)} (h : Lv L) (h1 : 1 ≤ L.length) (h2 : L.length ≤ 256) : (rt L).length = 32 := by
  by_cases h3 : L.length = 1
  · rw [rt_one h3]; exact h.get (by omega)
  · rw [rt_two (by omega) h2]; exact mnode_length _ _
/-- The path of leaf i, from above. -/
def pthF : Nat → List (List UInt8) → Nat → List (List UInt8)
  | 0, _, _ => []
  | f + 1, L, i => if L.length ≤ 1 then [] else if i < spl L.length then rt (L.drop (spl L.length)) :: pthF f (L.take (spl L.length)) i else rt (L.take (spl L.length)) :: pthF f (L.drop (spl L.length)) (i - spl L.length)
def pth (L : List (List UInt8)) (i : Nat) : List (List UInt8) := pthF L.length L i
theorem pthF_fuel : ∀ (f g : Nat) (L : List (List UInt8)) (i : Nat), 1 ≤ L.length → L.length ≤ 256 → L.length ≤ f → L.length ≤ g → pthF f L i = pthF g L i := by
  intro f
  induction f with
  | zero => intro g L i h1 h2 h3 h4; omega
  | succ f ih =>
    intro g L i h1 h2 h3 h4
    obtain ⟨g, rfl⟩ : ∃ k, g = k + 1 := ⟨g - 1, by omega⟩
    rw [pthF, pthF]
    split
    · rfl
    · rename_i h5
      obtain ⟨s1, s2, s3, _, _⟩ := spl_parts (n := L.length) (by omega) h2
      rw [ih g (L.take (spl L.length)) _ (by rw [List.length_take]; omega) (by rw [List.length_take]; omega) (by rw [List.length_take]; omega) (by rw [List.length_take]; omega),
        ih g (L.drop (spl L.length)) _ (by rw [List.length_drop]; omega) (by rw [List.length_drop]; omega) (by rw [List.length_drop]; omega) (by rw [List.length_drop]; omega)]
theorem pth_one {L : List (List UInt8)} (h : L.length = 1) (i : Nat) : pth L i = [] := by rw [pth, h, pthF, if_pos (by omega)]
theorem pth_two {L : List (List UInt8)} (h : 2 ≤ L.length) (h2 : L.length ≤ 256) (i : Nat) :
    pth L i = if i < spl L.length then rt (L.drop (spl L.length)) :: pth (L.take (spl L.length)) i else rt (L.take (spl L.length)) :: pth (L.drop (spl L.length)) (i - spl L.length) := by
  obtain ⟨s1, s2, s3, _, _⟩ := spl_parts h h2
  obtain ⟨f, hf⟩ : ∃ f, L.length = f + 1 := ⟨L.length - 1, by omega⟩
  have e : pth L i = pthF (f + 1) L i := by rw [pth, hf]
  rw [e, pthF, if_neg (by omega), pth, pth]
  rw [pthF_fuel f (L.take (spl L.length)).length (L.take (spl L.length)) _ (by rw [List.length_take]; omega) (by rw [List.length_take]; omega) (by rw [List.length_take]; omega) (by rw [List.length_take]; omega),
    pthF_fuel f (L.drop (spl L.length)).length (L.drop (spl L.length)) _ (by rw [List.length_drop]; omega) (by rw [List.length_drop]; omega) (by rw [List.length_drop]; omega) (by rw [List.length_drop]; omega)]
/-- The induction over the parts of a list of leaves. -/
theorem halves {Q : List (List UInt8) → Prop} (one : ∀ L, L.length = 1 → Q L) (two : ∀ L, 2 ≤ L.length → L.length ≤ 256 → Q (L.take (spl L.length)) → Q (L.drop (spl L.length)) → Q L) :
    ∀ (n : Nat) (L : List (List UInt8)), L.length ≤ n → 1 ≤ L.length → L.length ≤ 256 → Q L := by
  intro n
  induction n with
  | zero => intro L h1 h2 _; omega
  | succ n ih =>
    intro L h1 h2 h3
    by_cases h4 : L.length = 1
    · exact one L h4
    · obtain ⟨s1, s2, s3, _, _⟩ := spl_parts (n := L.length) (by omega) h3
      exact two L (by omega) h3 (ih _ (by rw [List.length_take]; omega) (by rw [List.length_take]; omega) (by rw [List.length_take]; omega)) (ih _ (by rw [List.length_drop]; omega) (by rw [List.length_drop]; omega) (by rw [List.length_drop]; omega))
theorem gR_take {L : List (List UInt8)} {i k : Nat} (h : i < k) (hk : k ≤ L.length) : gR (L.take k) i = gR L i := by
  rw [gR_eq (by rw [List.length_take]; omega), gR_eq (by omega), List.getElem_take]
theorem gR_drop {L : List (List UInt8)} {i k : Nat} (h : k ≤ i) (hk : i < L.length) : gR (L.drop k) (i - k) = gR L i := by
  rw [gR_eq (by rw [List.length_drop]; omega), gR_eq hk, List.getElem_drop]
  congr 1; omega
/-- The path leads to the root. -/
theorem up_pth {L : List (List UInt8)} (h1 : 1 ≤ L.length) (h2 : L.length ≤ 256) : ∀ i, i < L.length → upR (gR L i) i L.length (pth L i) = (rt L, true) := by
  refine halves (Q := fun L => ∀ i, i < L.length → upR (gR L i) i L.length (pth L i) = (rt L, true)) ?_ ?_ L.length L (Nat.le_refl _) h1 h2
  · intro L h i hi
    obtain rfl : i = 0 := by omega
    rw [pth_one h, upR, if_pos h, rt_one h]
  · intro L h h2 ih1 ih2 i hi
    obtain ⟨s1, s2, s3, _, _⟩ := spl_parts h h2
    rw [pth_two h h2, rt_two h h2]
    by_cases hk : i < spl L.length
    · have hl : (L.take (spl L.length)).length = spl L.length := by rw [List.length_take]; omega
      have := ih1 i (by rw [hl]; exact hk)
      rw [hl, gR_take hk (by omega)] at this
      rw [if_pos hk, upR, if_neg (by omega), if_pos hk, this]
    · have hl : (L.drop (spl L.length)).length = L.length - spl L.length := by rw [List.length_drop]
      have := ih2 (i - spl L.length) (by rw [hl]; omega)
      rw [hl, gR_drop (by omega) hi] at this
      rw [if_neg hk, upR, if_neg (by omega), if_neg hk, this]
theorem pth_sums {L : List (List UInt8)} (hv : Lv L) (h1 : 1 ≤ L.length) (h2 : L.length ≤ 256) : ∀ i, i < L.length → Lv (pth L i) := by
  refine halves (Q := fun L => Lv L → ∀ i, i < L.length → Lv (pth L i)) ?_ ?_ L.length L (Nat.le_refl _) h1 h2 hv
  · intro L h _ i hi
    rw [pth_one h]
    intro x hx; cases hx
  · intro L h h2 ih1 ih2 hv i hi
    obtain ⟨s1, s2, s3, _, _⟩ := spl_parts h h2
    rw [pth_two h h2]
    have r1 := rt_length (hv.take (spl L.length)) (by rw [List.length_take]; omega) (by rw [List.length_take]; omega)
    have r2 := rt_length (hv.drop (spl L.length)) (by rw [List.length_drop]; omega) (by rw [List.length_drop]; omega)
    by_cases hk : i < spl L.length
    · rw [if_pos hk]
      intro x hx
      rcases List.mem_cons.1 hx with rfl | hx
      · exact r2
      · exact ih1 (hv.take _) i (by rw [List.length_take]; omega) x hx
    · rw [if_neg hk]
      intro x hx
      rcases List.mem_cons.1 hx with rfl | hx
      · exact r1
      · exact ih2 (hv.drop _) _ (by rw [List.length_drop]; omega) x hx
theorem pth_length {L : List (List UInt8)} (h1 : 1 ≤ L.length) (h2 : L.length ≤ 256) : ∀ i, i < L.length → (pth L i).length ≤ L.length := by
  refine halves (Q := fun L => ∀ i, i < L.length → (pth L i).length ≤ L.length) ?_ ?_ L.length L (Nat.le_refl _) h1 h2
  · intro L h i hi
    rw [pth_one h]; exact Nat.zero_le _
  · intro L h h2 ih1 ih2 i hi
    obtain ⟨s1, s2, s3, _, _⟩ := spl_parts h h2
    rw [pth_two h h2]
    by_cases hk : i < spl L.length
    · have := ih1 i (by rw [List.length_take]; omega)
      rw [List.length_take] at this
      rw [if_pos hk, List.length_cons]; omega
    · have := ih2 (i - spl L.length) (by rw [List.length_drop]; omega)
      rw [List.length_drop] at this
      rw [if_neg hk, List.length_cons]; omega
/-- Of the leaves: n from s on. -/
def sg (L : List (List UInt8)) (s n : Nat) : List (List UInt8) := (L.drop s).take n
theorem sg_length {L : List (List UInt8)} {s n : Nat} (h : s + n ≤ L.length) : (sg L s n).length = n := by rw [sg, List.length_take, List.length_drop]; omega
theorem sg_take {L : List (List UInt8)} {s n k : Nat} (h : k ≤ n) : (sg L s n).take k = sg L s k := by rw [sg, sg, List.take_take, Nat.min_eq_left h]
theorem sg_drop {L : List (List UInt8)} {s n k : Nat} : (sg L s n).drop k = sg L (s + k) (n - k) := by rw [sg, sg, List.drop_take, List.drop_drop]
theorem sg_all {L : List (List UInt8)} : sg L 0 L.length = L := by rw [sg, List.drop_zero, List.take_length]
theorem Lv.sg {L : List (List UInt8)} (h : Lv L) (s n : Nat) : Lv (sg L s n) := (h.drop s).take n
theorem sg_split {L : List (List UInt8)} {s n : Nat} (h : s + n ≤ L.length) (h2 : 2 ≤ n) (h3 : n ≤ 256) : rt (sg L s n) = mnode (rt (sg L s (spl n))) (rt (sg L (s + spl n) (n - spl n))) := by
  have hl := sg_length h
  obtain ⟨s1, s2, s3, _, _⟩ := spl_parts h2 h3
  rw [rt_two (by rw [hl]; exact h2) (by rw [hl]; exact h3), hl, sg_take (by omega), sg_drop]
theorem sg_pth {L : List (List UInt8)} {s n : Nat} (h : s + n ≤ L.length) (h2 : 2 ≤ n) (h3 : n ≤ 256) (i : Nat) :
    pth (sg L s n) i = if i < spl n then rt (sg L (s + spl n) (n - spl n)) :: pth (sg L s (spl n)) i else rt (sg L s (spl n)) :: pth (sg L (s + spl n) (n - spl n)) (i - spl n) := by
  have hl := sg_length h
  obtain ⟨s1, s2, s3, _, _⟩ := spl_parts h2 h3
  rw [pth_two (by rw [hl]; exact h2) (by rw [hl]; exact h3), hl, sg_take (by omega), sg_drop]
end Go.Proofs.YtgjgofjabdjclaaDoor
/- merkle.Blocks and the reference's: the leaves of the blocks of data. -/
namespace Go.Proofs.YtgjgofjabdjclaaDoor
open Go Go.RowKit Gf Sha

/-- Block i of data. -/
def blk (x : List UInt8) (size i : Nat) : List UInt8 := (x.drop (i * size)).take size
def lvsK (x : List UInt8) (size k : Nat) : List (List UInt8) := (List.range k).map fun i => mleaf (blk x size i)
/-- The number of blocks. -/
def nb (n size : Nat) : Nat := (n - 1) / size + 1
theorem nb_lt {n size k : Nat} (h1 : 1 ≤ n) (hs : 1 ≤ size) : k < nb n size ↔ k * size < n := by
  unfold nb
  rw [Nat.lt_succ_iff, Nat.le_div_iff_mul_le (by omega)]
  omega
theorem lvsK_length (x : List UInt8) (size k : Nat) : (lvsK x size k).length = k := by simp [lvsK]
theorem lvsK_succ (x : List UInt8) (size k : Nat) : lvsK x size (k + 1) = lvsK x size k ++ [mleaf (blk x size k)] := by
  rw [lvsK, List.range_succ, List.map_append]; rfl
theorem lvsK_get {x : List UInt8} {size q k : Nat} (h : k < q) : gR (lvsK x size q) k = mleaf (blk x size k) := by
  rw [gR_eq (by rw [lvsK_length]; exact h)]; simp [lvsK]
theorem lvsK_lv (x : List UInt8) (size q : Nat) : Lv (lvsK x size q) := by
  intro y hy
  simp only [lvsK, List.mem_map] at hy
  obtain ⟨i, _, rfl⟩ := hy
  exact mleaf_length _
theorem take_min_drop {x : List UInt8} {a size m mm : Nat} (hm : (x.drop a).length = m) (h : mm = min size m) : (x.drop a).take mm = (x.drop a).take size := by
  rw [h, List.take_eq_take_iff]; omega
theorem drop_min_drop {x : List UInt8} {k size m mm : Nat} (hm : (x.drop (k * size)).length = m) (h : mm = min size m) : (x.drop (k * size)).drop mm = x.drop ((k + 1) * size) := by
  rw [List.drop_drop]
  rw [List.length_drop] at hm
  rw [Nat.succ_mul]
  by_cases h2 : size ≤ m
  · rw [h, Nat.min_eq_left h2]
  · rw [List.drop_eq_nil_of_le (by omega), List.drop_eq_nil_of_le (by omega)]
theorem bsl0S (w : World) : (Instr.buildSlice 61 0 #[]).run Tryd.prog w = .ok (.slice (some ⟨w.heap.size, 0, none⟩) 0 0) (w.alloc (.cells ([] : List Value).toArray 9)) := by kernel_rfl

set_option maxRecDepth 100000 in
set_option maxHeartbeats 4000000 in
theorem blocks_any (A : Option Addr) (n c size : Nat) (x : List UInt8) (w : World) (h : BS w A n c x) (hT : Tabs w) (h1 : 1 ≤ n) (hn : n ≤ 1000000) (hs : 1 ≤ size) (hs2 : size < 9223372036854775808) :
    Calls Tryd.prog 64 #[.slice A n c, .int .i64 (size : Int)] w fun e w' => ∃ v, e = .returned (.tuple #[v, .int .i64 0]) ∧ OwnS w' w.heap.size v (nb n size) (lvsK x size (nb n size)) ∧ Below w.heap.size w w' := by
  have HLX := Lib.hid h.1
  have HT := Lib.hid hT
  have H0 : Hid (BS w A n c (x.drop (0 * size))) := Lib.hid (by rw [Nat.zero_mul, List.drop_zero]; exact h)
  have HNB : Hid (∀ k, k < nb n size ↔ k * size < n) := Lib.hid (fun k => nb_lt h1 hs)
  obtain ⟨q, hq⟩ : ∃ q, q = nb n size := ⟨_, rfl⟩
  rw [← hq] at HNB ⊢
  have HQ : Hid (q ≤ 1000000) := Lib.hid (by rw [hq, nb]; have := Nat.div_le_self (n - 1) size; omega)
  have HN6 := Lib.hid hn
  have d1 : decide ((1048576 : Int) < (n : Int)) = false := decide_eq_false (by omega)
  clear h hT hq hn
  go_enter Tryd.func64, Tryd.ntmps64
  go_wp2_with fail
  go_loopw [0, 6] (fun xv v wr => ∃ (k m : Nat) (A' : Option Addr) (c' : Nat), xv = .slice A' m c' ∧ Hid (m ≤ 1000000) ∧ Hid (BS w A' m c' (x.drop (k * size))) ∧ Hid (m = n - k * size) ∧ Hid (k ≤ q) ∧ Hid (OwnS wr w.heap.size v k (lvsK x size k)) ∧ Hid (Below w.heap.size w wr)) (fun xv _ _ => match xv with | .slice _ m _ => m | _ => 0)
  case atStart => exact ⟨0, n, A, c, rfl, HN6, H0, Lib.hid (by rw [Nat.zero_mul]; rfl), Lib.hid (Nat.zero_le _), Lib.hid ⟨RW.nil _ _ _, fun b hb => by cases hb⟩, Lib.hid (Below.refl _ _)⟩
  case round =>
    obtain ⟨k, m, A', c', rfl, hm6, hbs, hmk, hkq, ho, hb⟩ := hrel
    obtain ⟨wx, hwx⟩ : ∃ x, x = wr := ⟨_, rfl⟩
    rw [← hwx] at ho hb ⊢
    clear hwx
    by_cases hlt : 0 < m
    · obtain ⟨mm, hmm⟩ : ∃ mm, mm = min size m := ⟨_, rfl⟩
      have emin : min (size : Int) (m : Int) = (mm : Int) := by omega
      have hmm1 : mm ≤ m := by omega
      have hmc : (mm : Int) ≤ (c' : Int) := by have := hbs.out.2.1; omega
      have hmc2 : mm ≤ c' := by omega
      have HM6 : Hid (m - mm ≤ 1000000 ∧ mm ≤ 1000000) := Lib.hid (by have := hm6.out; omega)
      have HMP : Hid (0 < mm) := Lib.hid (by omega)
      have hk : k < q := (HNB.out k).2 (by have := hmk.out; omega)
      have HTK : Hid (BS wx A' mm c' (blk x size k)) := Lib.hid (by
        have := (hbs.out.kept hb.out).pre hmm1
        rw [take_min_drop hbs.out.1 hmm] at this
        exact this)
      have HDR : Hid (BS w (cutA A' c' mm) (m - mm) (c' - mm) (x.drop ((k + 1) * size))) := Lib.hid (by
        have := hbs.out.cut hmm1
        rw [drop_min_drop hbs.out.1 hmm] at this
        exact this)
      have HMK : Hid (m - mm = n - (k + 1) * size) := Lib.hid (by have := hmk.out; rw [Nat.succ_mul]; omega)
      have HKQ : Hid (k + 1 ≤ q) := Lib.hid hk
      have HLS := Lib.hid (lvsK_succ x size k)
      obtain ⟨lf, hlf⟩ : ∃ lf, lf = mleaf (blk x size k) := ⟨_, rfl⟩
      rw [← hlf] at HLS
      have HLF := Lib.hid hlf.symm
      clear hmm hk hlf
      go_wp2_with (first
        | (go_at_call 85; refine (leaf_any A' mm c' _ wx HTK.out (HT.out.kept hb.out)).mono ?_; rintro e w3 ⟨rfl, b1⟩; rw [HLF.out]; have HX3 := Lib.hid b1; clear b1)
        | ((with_reducible show wpList _ _ _ (⟨some 25, _, _, _, _, _⟩ :: _) _ _); refine wpList_bslice _ rfl 61 9 1 _ rfl #[(0, .string (strB lf))] (by rw [List.map_toArray]; rfl) [.string (strB lf)] (bslS lf _) ?_; intro w5 a1 a2 a3; have HG5 := Lib.hid a1; have HX5 := Lib.hid (below_then HX3.out a2); clear a1 a2 a3)
        | ((with_reducible show wpList _ _ _ (⟨some 26, _, _, _, _, _⟩ :: _) _ _); obtain ⟨iS, i1, i2, i3, i4⟩ := info_some infoStr; refine wpList_appRW _ rfl (.tmp 20) (.tmp 25) 61 9 1 iS _ rfl Tryd.underlying61 i1 i2 i3 rfl _ k _ rfl (ho.out.1.kept HX5.out) w3.heap.size [.string (strB lf)] rfl HG5.out rfl (by intro v hv; simp only [List.mem_singleton] at hv; subst hv; rfl) (by rw [i4]; have := HKQ.out; have := HQ.out; omega) (by have := HKQ.out; have := HQ.out; omega) ?_; intro v' w6 a1; have HR6 := Lib.hid a1; clear a1 i1 i2 i3 i4)
        | ((with_reducible show wpList _ _ _ (⟨some 29, _, _, _, _, _⟩ :: _) _ _); refine wpList_cut _ rfl (.tmp 27) _ 22 5 rfl Tryd.underlying22 (by kernel_rfl) A' m c' mm _ rfl rfl rfl hmm1 ?_))
      have HB5 : Hid (Below w.heap.size w w5) := Lib.hid (below_thenB hb.out hb.out.size HX5.out)
      have HB6 : Hid (Below w.heap.size w w6) := Lib.hid (((Kp.of_below (S := fun _ => False) HB5.out).after HR6.out.kp (fun i hi e => by have := ho.out.2 i e; omega)).below (Nat.le_refl _) (fun _ h => h.elim))
      have HO6 : Hid (OwnS w6 w.heap.size v' (k + 1) (lvsK x size (k + 1))) := Lib.hid ⟨by
          have := HR6.out.row
          rw [HLS.out, List.map_append]
          exact this, fun b hb' => (HR6.out.own b hb').elim (fun h1 => ho.out.2 b h1) (fun h1 => Nat.le_trans HB5.out.size h1)⟩
      go_roundw
      case rel => exact ⟨k + 1, m - mm, _, _, rfl, Lib.hid HM6.out.1, HDR, HMK, HKQ, HO6, HB6⟩
      case measure => show m - mm < m; have := HMP.out; omega
    · obtain rfl : m = 0 := by omega
      have HKE : Hid (k = q) := Lib.hid (by
        have h1 := HNB.out k
        have h2 := hkq.out
        have h3 := hmk.out
        by_cases h4 : k < q
        · have := h1.1 h4; omega
        · omega)
      go_wp2_with fail
      go_ret2
      refine ⟨_, rfl, ?_, hb.out⟩
      have := ho.out
      rw [HKE.out] at this
      exact this
set_option maxRecDepth 100000 in
set_option maxHeartbeats 4000000 in
theorem rblocks_any (A : Option Addr) (n c size : Nat) (x : List UInt8) (w : World) (h : BS w A n c x) (hT : Tabs w) (h1 : 1 ≤ n) (hn : n ≤ 1000000) (hs : 1 ≤ size) (hs2 : size < 9223372036854775808) :
    Calls Tryd.prog 93 #[.slice A n c, .int .i64 (size : Int)] w fun e w' => ∃ v, e = .returned (.tuple #[v, .int .i64 0]) ∧ OwnS w' w.heap.size v (nb n size) (lvsK x size (nb n size)) ∧ Below w.heap.size w w' := by
  have HLX := Lib.hid h.1
  have HT := Lib.hid hT
  have H0 : Hid (BS w A n c (x.drop (0 * size))) := Lib.hid (by rw [Nat.zero_mul, List.drop_zero]; exact h)
  have HNB : Hid (∀ k, k < nb n size ↔ k * size < n) := Lib.hid (fun k => nb_lt h1 hs)
  obtain ⟨q, hq⟩ : ∃ q, q = nb n size := ⟨_, rfl⟩
  rw [← hq] at HNB ⊢
  have HQ : Hid (q ≤ 1000000) := Lib.hid (by rw [hq, nb]; have := Nat.div_le_self (n - 1) size; omega)
  have HN6 := Lib.hid hn
  have d1 : decide ((1048576 : Int) < (n : Int)) = false := decide_eq_false (by omega)
  clear h hT hq hn
  go_enter Tryd.func93, Tryd.ntmps93
  go_wp2_with ((with_reducible show wpList _ _ _ (⟨some 13, _, _, _, _, _⟩ :: _) _ _); refine wpList_bslice _ rfl 61 9 0 _ rfl #[] (by rw [List.map_toArray]; rfl) [] (bsl0S _) ?_; intro w1 a1 a2 a3; have HG1 := Lib.hid a1; have HB1 := Lib.hid a2; clear a1 a2 a3)
  go_loopw [0, 6] (fun xv v wr => ∃ (k m : Nat) (A' : Option Addr) (c' : Nat), xv = .slice A' m c' ∧ Hid (m ≤ 1000000) ∧ Hid (BS w A' m c' (x.drop (k * size))) ∧ Hid (m = n - k * size) ∧ Hid (k ≤ q) ∧ Hid (OwnS wr w.heap.size v k (lvsK x size k)) ∧ Hid (Below w.heap.size w wr)) (fun xv _ _ => match xv with | .slice _ m _ => m | _ => 0)
  case atStart => exact ⟨0, n, A, c, rfl, HN6, H0, Lib.hid (by rw [Nat.zero_mul]; rfl), Lib.hid (Nat.zero_le _), Lib.hid ⟨RW.of_blk HG1.out rfl (by decide), fun b hb => by cases hb; exact Nat.le_refl _⟩, HB1⟩
  case round =>
    obtain ⟨k, m, A', c', rfl, hm6, hbs, hmk, hkq, ho, hb⟩ := hrel
    obtain ⟨wx, hwx⟩ : ∃ x, x = wr := ⟨_, rfl⟩
    rw [← hwx] at ho hb ⊢
    clear hwx
    by_cases hlt : 0 < m
    · obtain ⟨mm, hmm⟩ : ∃ mm, mm = min size m := ⟨_, rfl⟩
      have emin : min (size : Int) (m : Int) = (mm : Int) := by omega
      have hmm1 : mm ≤ m := by omega
      have hmc : (mm : Int) ≤ (c' : Int) := by have := hbs.out.2.1; omega
      have hmc2 : mm ≤ c' := by omega
      have HM6 : Hid (m - mm ≤ 1000000 ∧ mm ≤ 1000000) := Lib.hid (by have := hm6.out; omega)
      have HMP : Hid (0 < mm) := Lib.hid (by omega)
      have hk : k < q := (HNB.out k).2 (by have := hmk.out; omega)
      have HTK : Hid (BS wx A' mm c' (blk x size k)) := Lib.hid (by
        have := (hbs.out.kept hb.out).pre hmm1
        rw [take_min_drop hbs.out.1 hmm] at this
        exact this)
      have HDR : Hid (BS w (cutA A' c' mm) (m - mm) (c' - mm) (x.drop ((k + 1) * size))) := Lib.hid (by
        have := hbs.out.cut hmm1
        rw [drop_min_drop hbs.out.1 hmm] at this
        exact this)
      have HMK : Hid (m - mm = n - (k + 1) * size) := Lib.hid (by have := hmk.out; rw [Nat.succ_mul]; omega)
      have HKQ : Hid (k + 1 ≤ q) := Lib.hid hk
      have HLS := Lib.hid (lvsK_succ x size k)
      obtain ⟨lf, hlf⟩ : ∃ lf, lf = mleaf (blk x size k) := ⟨_, rfl⟩
      rw [← hlf] at HLS
      have HLF := Lib.hid hlf.symm
      clear hmm hk hlf
      go_wp2_with (first
        | (go_at_call 87; refine (rleaf_any A' mm c' _ wx HTK.out HM6.out.2).mono ?_; rintro e w3 ⟨rfl, b1⟩; rw [HLF.out]; have HX3 := Lib.hid b1; clear b1)
        | ((with_reducible show wpList _ _ _ (⟨some 26, _, _, _, _, _⟩ :: _) _ _); refine wpList_bslice _ rfl 61 9 1 _ rfl #[(0, .string (strB lf))] (by rw [List.map_toArray]; rfl) [.string (strB lf)] (bslS lf _) ?_; intro w5 a1 a2 a3; have HG5 := Lib.hid a1; have HX5 := Lib.hid (below_then HX3.out a2); clear a1 a2 a3)
        | ((with_reducible show wpList _ _ _ (⟨some 27, _, _, _, _, _⟩ :: _) _ _); obtain ⟨iS, i1, i2, i3, i4⟩ := info_some infoStr; refine wpList_appRW _ rfl (.tmp 21) (.tmp 26) 61 9 1 iS _ rfl Tryd.underlying61 i1 i2 i3 rfl _ k _ rfl (ho.out.1.kept HX5.out) w3.heap.size [.string (strB lf)] rfl HG5.out rfl (by intro v hv; simp only [List.mem_singleton] at hv; subst hv; rfl) (by rw [i4]; have := HKQ.out; have := HQ.out; omega) (by have := HKQ.out; have := HQ.out; omega) ?_; intro v' w6 a1; have HR6 := Lib.hid a1; clear a1 i1 i2 i3 i4)
        | ((with_reducible show wpList _ _ _ (⟨some 30, _, _, _, _, _⟩ :: _) _ _); refine wpList_cut _ rfl (.tmp 28) _ 22 5 rfl Tryd.underlying22 (by kernel_rfl) A' m c' mm _ rfl rfl rfl hmm1 ?_))
      have HB5 : Hid (Below w.heap.size w w5) := Lib.hid (below_thenB hb.out hb.out.size HX5.out)
      have HB6 : Hid (Below w.heap.size w w6) := Lib.hid (((Kp.of_below (S := fun _ => False) HB5.out).after HR6.out.kp (fun i hi e => by have := ho.out.2 i e; omega)).below (Nat.le_refl _) (fun _ h => h.elim))
      have HO6 : Hid (OwnS w6 w.heap.size v' (k + 1) (lvsK x size (k + 1))) := Lib.hid ⟨by
          have := HR6.out.row
          rw [HLS.out, List.map_append]
          exact this, fun b hb' => (HR6.out.own b hb').elim (fun h1 => ho.out.2 b h1) (fun h1 => Nat.le_trans HB5.out.size h1)⟩
      go_roundw
      case rel => exact ⟨k + 1, m - mm, _, _, rfl, Lib.hid HM6.out.1, HDR, HMK, HKQ, HO6, HB6⟩
      case measure => show m - mm < m; have := HMP.out; omega
    · obtain rfl : m = 0 := by omega
      have HKE : Hid (k = q) := Lib.hid (by
        have h1 := HNB.out k
        have h2 := hkq.out
        have h3 := hmk.out
        by_cases h4 : k < q
        · have := h1.1 h4; omega
        · omega)
      go_wp2_with fail
      go_ret2
      refine ⟨_, rfl, ?_, hb.out⟩
      have := ho.out
      rw [HKE.out] at this
      exact this
end Go.Proofs.YtgjgofjabdjclaaDoor
/- The levels of a growing tree: plainly, and in memory. -/
namespace Go.Proofs.YtgjgofjabdjclaaDoor
open Go Go.RowKit Gf Sha

/-- Level j: the roots of the whole subtrees of 2^j leaves. -/
def lvl (L : List (List UInt8)) (j : Nat) : List (List UInt8) := (List.range (L.length / 2 ^ j)).map fun i => rt (sg L (i * 2 ^ j) (2 ^ j))
/-- The number of levels. -/
def nl (n : Nat) : Nat := if n = 0 then 1 else Lib.bitLen n
/-- The levels while leaf x is added: those below l have it. -/
def lvX (L : List (List UInt8)) (x : List UInt8) (l m : Nat) : List (List (List UInt8)) := (List.range m).map fun j => if j < l then lvl (L ++ [x]) j else lvl L j
def lvA (L : List (List UInt8)) : List (List (List UInt8)) := (List.range (nl L.length)).map (lvl L)
theorem lvl_length (L : List (List UInt8)) (j : Nat) : (lvl L j).length = L.length / 2 ^ j := by simp [lvl]
theorem lvA_length (L : List (List UInt8)) : (lvA L).length = nl L.length := by simp [lvA]
theorem lvX_length (L : List (List UInt8)) (x : List UInt8) (l m : Nat) : (lvX L x l m).length = m := by simp [lvX]
theorem lvX_zero (L : List (List UInt8)) (x : List UInt8) : lvX L x 0 (nl L.length) = lvA L := by simp [lvX, lvA]
theorem sg_app {L : List (List UInt8)} {x : List UInt8} {s n : Nat} (h : s + n ≤ L.length) : sg (L ++ [x]) s n = sg L s n := by
  rw [sg, sg, List.drop_append_of_le_length (by omega), List.take_append_of_le_length (by rw [List.length_drop]; omega)]
theorem lvl_same {L : List (List UInt8)} {x : List UInt8} {j : Nat} (h : (L.length + 1) / 2 ^ j = L.length / 2 ^ j) : lvl (L ++ [x]) j = lvl L j := by
  rw [lvl, lvl, List.length_append, List.length_singleton, h]
  refine List.map_congr_left fun i hi => ?_
  have hi' := List.mem_range.1 hi
  have h2 : (i + 1) * 2 ^ j ≤ L.length := by
    have := Nat.div_mul_le_self L.length (2 ^ j)
    have h3 : (i + 1) * 2 ^ j ≤ L.length / 2 ^ j * 2 ^ j := Nat.mul_le_mul_right _ hi'
    omega
  rw [sg_app (by rw [Nat.succ_mul] at h2; exact h2)]
theorem lvl_push {L : List (List UInt8)} {x : List UInt8} {j : Nat} (h : (L.length + 1) % 2 ^ j = 0) : lvl (L ++ [x]) j = lvl L j ++ [rt (sg (L ++ [x]) (L.length + 1 - 2 ^ j) (2 ^ j))] := by
  have hp : 0 < 2 ^ j := Nat.two_pow_pos j
  have hd : (L.length + 1) / 2 ^ j = L.length / 2 ^ j + 1 := by rw [Nat.succ_div, if_pos (Nat.dvd_of_mod_eq_zero h)]
  have hm : (L.length + 1) / 2 ^ j * 2 ^ j = L.length + 1 := Nat.div_mul_cancel (Nat.dvd_of_mod_eq_zero h)
  have e : L.length / 2 ^ j * 2 ^ j = L.length + 1 - 2 ^ j := by rw [hd, Nat.succ_mul] at hm; omega
  rw [lvl, List.length_append, List.length_singleton, hd, List.range_succ, List.map_append, List.map_cons, List.map_nil, e]
  congr 1
  rw [lvl]
  refine List.map_congr_left fun i hi => ?_
  have hi' := List.mem_range.1 hi
  have h2 : (i + 1) * 2 ^ j ≤ L.length := by
    have := Nat.div_mul_le_self L.length (2 ^ j)
    have h3 : (i + 1) * 2 ^ j ≤ L.length / 2 ^ j * 2 ^ j := Nat.mul_le_mul_right _ hi'
    omega
  rw [sg_app (by rw [Nat.succ_mul] at h2; exact h2)]
theorem nl_dec : ∀ n : Fin 256, ∀ l : Fin 10, (n.val + 1) % 2 ^ l.val = 0 →
    l.val ≤ nl n.val ∧ nl n.val ≤ 8 ∧ n.val / 2 ^ (nl n.val) = 0 ∧ ((n.val + 1) / 2 ^ l.val % 2 = 1 → nl (n.val + 1) = if l.val = nl n.val then nl n.val + 1 else nl n.val) ∧
      ((n.val + 1) / 2 ^ l.val % 2 = 0 → l.val < nl n.val ∧ (n.val + 1) % 2 ^ (l.val + 1) = 0 ∧ 2 ^ (l.val + 1) ≤ n.val + 1) := by decide +kernel
theorem nl_parts {n l : Nat} (hn : n < 256) (hl : l < 10) (h : (n + 1) % 2 ^ l = 0) :
    l ≤ nl n ∧ nl n ≤ 8 ∧ n / 2 ^ (nl n) = 0 ∧ ((n + 1) / 2 ^ l % 2 = 1 → nl (n + 1) = if l = nl n then nl n + 1 else nl n) ∧
      ((n + 1) / 2 ^ l % 2 = 0 → l < nl n ∧ (n + 1) % 2 ^ (l + 1) = 0 ∧ 2 ^ (l + 1) ≤ n + 1) := nl_dec ⟨n, hn⟩ ⟨l, hl⟩ h
theorem spl_two : ∀ l : Fin 8, spl (2 ^ (l.val + 1)) = 2 ^ l.val := by decide +kernel
/-- The next root. -/
theorem rt_join {L : List (List UInt8)} {l : Nat} (hl : l < 8) (h : 2 ^ (l + 1) ≤ L.length) :
    rt (sg L (L.length - 2 ^ (l + 1)) (2 ^ (l + 1))) = mnode (rt (sg L (L.length - 2 ^ (l + 1)) (2 ^ l))) (rt (sg L (L.length - 2 ^ l) (2 ^ l))) := by
  have e1 : 2 ^ (l + 1) = 2 ^ l + 2 ^ l := by rw [Nat.pow_succ]; omega
  have h2 : 2 ^ (l + 1) ≤ 2 ^ 8 := Nat.pow_le_pow_right (by decide) (by omega)
  have hp : 0 < 2 ^ l := Nat.two_pow_pos l
  have e2 := spl_two ⟨l, hl⟩
  simp only at e2
  rw [sg_split (by omega) (by omega) (by omega), e2]
  congr 4 <;> omega
theorem lvX_push (L : List (List UInt8)) (x : List UInt8) (m : Nat) (h : lvl L m = []) : lvX L x m (m + 1) = lvX L x m m ++ [[]] := by
  rw [lvX, lvX, List.range_succ, List.map_append, List.map_cons, List.map_nil, if_neg (by omega), h]
theorem lvX_get {L : List (List UInt8)} {x : List UInt8} {l m j : Nat} (h : j < m) : (lvX L x l m)[j]? = some (if j < l then lvl (L ++ [x]) j else lvl L j) := by
  rw [lvX, List.getElem?_map, List.getElem?_range h]; rfl
theorem lvX_set (L : List (List UInt8)) (x : List UInt8) (l m : Nat) : (lvX L x l m).set l (lvl (L ++ [x]) l) = lvX L x (l + 1) m := by
  apply List.ext_getElem?
  intro j
  by_cases hj : j < m
  · rw [lvX_get hj, List.getElem?_set]
    by_cases e : l = j
    · subst e; rw [if_pos rfl, if_pos (by rw [lvX_length]; exact hj), if_pos (by omega)]
    · rw [if_neg e, lvX_get hj]
      by_cases h2 : j < l
      · rw [if_pos h2, if_pos (by omega)]
      · rw [if_neg h2, if_neg (by omega)]
  · rw [List.getElem?_eq_none (by rw [List.length_set, lvX_length]; omega), List.getElem?_eq_none (by rw [lvX_length]; omega)]
/-- All levels at the end. -/
theorem lvX_done {L : List (List UInt8)} {x : List UInt8} {l m : Nat} (hm : m = nl (L.length + 1)) (h : ∀ j, l < j → (L.length + 1) / 2 ^ j = L.length / 2 ^ j) : lvX L x (l + 1) m = lvA (L ++ [x]) := by
  rw [lvX, lvA, List.length_append, List.length_singleton, ← hm]
  refine List.map_congr_left fun j _ => ?_
  by_cases hj : j < l + 1
  · rw [if_pos hj]
  · rw [if_neg hj, lvl_same (h j (by omega))]
theorem odd_same {n l j : Nat} (h : (n + 1) / 2 ^ l % 2 = 1) (hj : l < j) : (n + 1) / 2 ^ j = n / 2 ^ j := by
  rw [Nat.succ_div, if_neg, Nat.add_zero]
  intro hd
  have h1 : 2 ^ (l + 1) ∣ n + 1 := Nat.dvd_trans (Nat.pow_dvd_pow 2 (by omega)) hd
  obtain ⟨k, hk⟩ := h1
  rw [hk, Nat.pow_succ, Nat.mul_assoc, Nat.mul_div_cancel_left _ (Nat.two_pow_pos l)] at h
  omega

/-- A tree with these levels, in blocks of its own from base on. -/
structure TreeM (w : World) (g base : Nat) (lv : List (List (List UInt8))) (v : Value) (vs : List Value) : Prop where
  box : BL w g 132 [v]
  row : RW w 61 1 v lv.length vs
  len : vs.length = lv.length
  lvs : ∀ j (h : j < lv.length) (h' : j < vs.length), RW w 9 1 vs[j] lv[j].length (lv[j].map usC)
  gb : base ≤ g
  vb : ∀ b, v.ownBlock = some b → base ≤ b ∧ b ≠ g
  lb : ∀ j (h : j < vs.length), ∀ b, vs[j].ownBlock = some b → base ≤ b ∧ b ≠ g ∧ v.ownBlock ≠ some b
  dis : ∀ i j (hi : i < vs.length) (hj : j < vs.length), i ≠ j → ∀ b, vs[i].ownBlock = some b → vs[j].ownBlock ≠ some b
theorem TreeM.kept {w w' : World} {g base : Nat} {lv : List (List (List UInt8))} {v : Value} {vs : List Value} (h : TreeM w g base lv v vs) (hb : Below w.heap.size w w') : TreeM w' g base lv v vs :=
  ⟨h.box.kept hb, h.row.kept hb, h.len, fun j h1 h2 => (h.lvs j h1 h2).kept hb, h.gb, h.vb, h.lb, h.dis⟩
theorem RW.set1 {w w' : World} {te : TypeId} {n : Nat} {v : Value} {l : List Value} (h : RW w te 1 v n l) {g o c : Nat} (hv : v = .slice (some ⟨g, o, none⟩) n c) {k : Nat} (_ : k < n) (x : Value) (hw : w' = w.setCell ⟨g, o + k, none⟩ x) : RW w' te 1 v n (l.set k x) := by
  subst hv hw
  refine ⟨by rw [List.length_set]; exact h.1, ?_⟩
  rcases h.2 with ⟨e, _⟩ | ⟨g', o', c', cs, e, hb, h1, h2, h3, h4⟩
  · cases e
  · cases e
    refine .inr ⟨g, o, c, cs.set (o + k) x, rfl, hb.set_ _ _, h1, h2, by rw [List.length_set]; exact h3, ?_⟩
    rw [← h4, List.drop_set, if_neg (by omega), List.take_set, Nat.add_sub_cancel_left]
/-- An empty level more. -/
theorem TreeM.push {w w1 w2 : World} {g base : Nat} {lv : List (List (List UInt8))} {v v' : Value} {vs : List Value} (h : TreeM w g base lv v vs) (hg : g < w.heap.size) (hB : base ≤ w.heap.size)
    (ap : AppR w 61 1 v lv.length 1 vs [.slice none 0 0] v' w1) (hw : w2 = w1.setCell ⟨g, 0, none⟩ v') : TreeM w2 g base (lv ++ [[]]) v' (vs ++ [.slice none 0 0]) ∧ Below base w w2 := by
  have hk : Kp (· = g) w1 w2 := by subst hw; exact (Kp.refl (· = g) w1).set (p := ⟨g, 0, none⟩) (.inl rfl) _
  have hlt : ∀ j (hj : j < vs.length) b, vs[j].ownBlock = some b → b < w.heap.size := fun j hj b hb => (h.lvs j (by rw [← h.len]; exact hj) hj).lt hb
  have hvg : ∀ b, v'.ownBlock = some b → base ≤ b ∧ b ≠ g := fun b hb => (ap.own b hb).elim (fun h1 => h.vb b h1) (fun h1 => ⟨by omega, by omega⟩)
  have hbox : BL w1 g 132 [v] := h.box.kp ap.kp (fun e => (h.vb g e).2 rfl)
  refine ⟨⟨?_, ?_, by simp [h.len], fun j h1 h2 => ?_, h.gb, hvg, fun j h2 b hb => ?_, fun i j hi hj hne b hb => ?_⟩, ?_⟩
  · subst hw
    have := hbox.set_ 0 v'
    exact this
  · rw [List.length_append]
    exact ap.row.kp hk (fun b hb e => (hvg b hb).2 e)
  · by_cases hj : j < lv.length
    · have hj' : j < vs.length := by rw [h.len]; exact hj
      rw [List.getElem_append_left hj', List.getElem_append_left hj]
      exact ((h.lvs j hj hj').kp ap.kp (fun b hb => (h.lb j hj' b hb).2.2)).kp hk (fun b hb e => (h.lb j hj' b hb).2.1 e)
    · have hj2 : j = lv.length := by simp at h1; omega
      subst hj2
      rw [List.getElem_append_right (by rw [h.len]; exact Nat.le_refl _), List.getElem_append_right (Nat.le_refl _)]
      simp only [h.len, Nat.sub_self, List.getElem_cons_zero, List.length_nil, List.map_nil]
      exact RW.nil _ _ _
  · by_cases hj' : j < vs.length
    · rw [List.getElem_append_left hj'] at hb
      obtain ⟨a1, a2, a3⟩ := h.lb j hj' b hb
      exact ⟨a1, a2, fun e => (ap.own b e).elim a3 (fun h1 => by have := hlt j hj' b hb; omega)⟩
    · rw [List.getElem_append_right (by omega)] at hb
      have : j - vs.length = 0 := by simp at h2; omega
      simp only [this, List.getElem_cons_zero] at hb
      cases hb
  · by_cases hi' : i < vs.length
    · rw [List.getElem_append_left hi'] at hb
      by_cases hj' : j < vs.length
      · rw [List.getElem_append_left hj']
        exact h.dis i j hi' hj' hne b hb
      · rw [List.getElem_append_right (by omega)]
        have : j - vs.length = 0 := by simp at hj; omega
        simp only [this, List.getElem_cons_zero]
        intro e; cases e
    · rw [List.getElem_append_right (by omega)] at hb
      have : i - vs.length = 0 := by simp at hi; omega
      simp only [this, List.getElem_cons_zero] at hb
      cases hb
  · have k1 : Kp (fun b => base ≤ b) w w2 := (ap.kp.mono (fun b _ hb => (h.vb b hb).1)).trans (hk.mono (fun b _ e => by rw [e]; exact h.gb))
    exact k1.below hB (fun _ h => h)
/-- A level's list turned. -/
theorem TreeM.put {w w1 w2 : World} {g base : Nat} {lv : List (List (List UInt8))} {v x' : Value} {vs : List Value} (h : TreeM w g base lv v vs) (hB : base ≤ w.heap.size) {l : Nat} (hl : l < lv.length) (hl' : l < vs.length) {r : List UInt8}
    (ap : AppR w 9 1 vs[l] lv[l].length 1 (lv[l].map usC) [.string (strB r)] x' w1) {gv o c : Nat} (hv : v = .slice (some ⟨gv, o, none⟩) lv.length c) (hw : w2 = w1.setCell ⟨gv, o + l, none⟩ x') :
    TreeM w2 g base (lv.set l (lv[l] ++ [r])) v (vs.set l x') ∧ Below base w w2 := by
  have hk : Kp (· = gv) w1 w2 := by subst hw; exact (Kp.refl (· = gv) w1).set (p := ⟨gv, o + l, none⟩) (.inl rfl) _
  have hvo : v.ownBlock = some gv := by rw [hv]; rfl
  have hlt : ∀ j (hj : j < vs.length) b, vs[j].ownBlock = some b → b < w.heap.size := fun j hj b hb => (h.lvs j (by rw [← h.len]; exact hj) hj).lt hb
  have hgv : gv < w.heap.size := h.row.lt hvo
  have hx : ∀ b, x'.ownBlock = some b → base ≤ b ∧ b ≠ g ∧ v.ownBlock ≠ some b := fun b hb => (ap.own b hb).elim (fun h1 => h.lb l hl' b h1) (fun h1 => ⟨by omega, by have := h.box.lt; omega, by rw [hvo]; intro e; injection e with e; omega⟩)
  refine ⟨⟨?_, ?_, by simp [h.len], fun j h1 h2 => ?_, h.gb, h.vb, fun j h2 b hb => ?_, fun i j hi hj hne b hb => ?_⟩, ?_⟩
  · exact (h.box.kp ap.kp (fun e => (h.lb l hl' g e).2.1 rfl)).kp hk (fun e => (h.vb gv hvo).2 e.symm)
  · rw [List.length_set]
    exact (h.row.kp ap.kp (fun b hb e => (h.lb l hl' b e).2.2 hb)).set1 hv hl x' hw
  · rw [List.length_set] at h1 h2
    by_cases e : l = j
    · subst e
      rw [List.getElem_set_self, List.getElem_set_self, List.map_append, List.length_append]
      exact (ap.row.kp hk (fun b hb e => (hx b hb).2.2 (by rw [hvo, e])))
    · rw [List.getElem_set_ne e, List.getElem_set_ne e]
      exact ((h.lvs j h1 h2).kp ap.kp (fun b hb hb2 => h.dis j l h2 hl' (fun h => e h.symm) b hb hb2)).kp hk (fun b hb e2 => (h.lb j h2 b hb).2.2 (by rw [hvo, e2]))
  · rw [List.length_set] at h2
    by_cases e : l = j
    · subst e
      rw [List.getElem_set_self] at hb
      exact hx b hb
    · rw [List.getElem_set_ne e] at hb
      exact h.lb j h2 b hb
  · rw [List.length_set] at hi hj
    by_cases e1 : l = i
    · subst e1
      rw [List.getElem_set_self] at hb
      rw [List.getElem_set_ne hne]
      intro hb2
      exact (ap.own b hb).elim (fun h1 => h.dis l j hi hj hne b h1 hb2) (fun h1 => by have := hlt j hj b hb2; omega)
    · rw [List.getElem_set_ne e1] at hb
      by_cases e2 : l = j
      · subst e2
        rw [List.getElem_set_self]
        intro hb2
        exact (ap.own b hb2).elim (fun h1 => h.dis i l hi hj hne b hb h1) (fun h1 => by have := hlt i hi b hb; omega)
      · rw [List.getElem_set_ne e2]
        exact h.dis i j hi hj hne b hb
  · have k1 : Kp (fun b => base ≤ b) w w2 := (ap.kp.mono (fun b _ hb => (h.lb l hl' b hb).1)).trans (hk.mono (fun b _ e => by rw [e]; exact (h.vb gv hvo).1))
    exact k1.below hB (fun _ h => h)
end Go.Proofs.YtgjgofjabdjclaaDoor
