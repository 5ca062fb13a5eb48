/- Several texts in one: Sq, Sm, Gd, Cb0, Cb1, Re9. -/
import Derived.Test.YtakedococfklgaaB5
import Derived.Test.YtakedococfklgaaB4
import Derived.Test.YtakedococfklgaaB2
/- Plain facts about the shares that Split gives, and about the coefficients that fit. -/
namespace Go.Proofs.Ytakedococfklgaa
open Go.RowKit Gf

/-! ### the plain law -/
theorem hor_length {m : List (List UInt8)} (x : UInt8) {L : Nat} (hm : ∀ j, j < m.length → (gR m j).length = L) : ∀ j, j ≤ m.length → (hor m x L j).length = L
  | 0, _ => zeros_length L
  | j + 1, h => by
    have h1 := hor_length x hm j (by omega)
    rw [hor, muladd_length _ _ _ (by rw [hm _ (by omega), h1]), h1]
theorem hor_at {m : List (List UInt8)} (x : UInt8) {L : Nat} (hm : ∀ j, j < m.length → (gR m j).length = L) {b : Nat} (hb : b < L) : ∀ j, j ≤ m.length → gB (hor m x L j) b = Py.ev ((m.drop (m.length - j)).map (fun r => gB r b)) x
  | 0, _ => by
    rw [Nat.sub_zero, List.drop_length]
    show gB (zeros L) b = 0
    rw [gB_eq (by rw [zeros_length]; exact hb)]
    simp [zeros]
  | j + 1, h => by
    have h1 := hor_length x hm j (by omega)
    have h2 : m.length - (j + 1) < m.length := by omega
    rw [hor, Py.gB_mad (by rw [hm _ (by omega), h1]) (by rw [h1]; exact hb), hor_at x hm hb j (by omega), List.drop_eq_getElem_cons h2, List.map_cons, Py.ev_cons, show m.length - (j + 1) + 1 = m.length - j by omega, show m.length - 1 - j = m.length - (j + 1) by omega, gR_eq h2, mul_comm]
theorem spl_share {s : List UInt8} {co : List (List UInt8)} (hr : ∀ j, j < co.length → (gR co j).length = s.length) (X : UInt8) : evl (splM s co) X = spK s co X s.length := by
  have hm : ∀ j, j < (splM s co).length → (gR (splM s co) j).length = s.length := fun j hj => by
    cases j with
    | zero => rfl
    | succ j => exact hr j (by simpa [splM] using hj)
  have hl : (evl (splM s co) X).length = s.length := hor_length X hm _ (Nat.le_refl _)
  apply List.ext_getElem (by rw [hl, spK_length])
  intro i h1 h2
  have hi : i < s.length := by rw [← hl]; exact h1
  rw [← gB_eq h1, ← gB_eq h2, spK, gB_tab _ hi, rv_ev]
  show gB (hor (splM s co) X s.length (splM s co).length) i = _
  rw [hor_at X hm hi _ (Nat.le_refl _), Nat.sub_self]
  rfl
/-- The specified shares. -/
def wnK (s : List UInt8) (co : List (List UInt8)) (z : List Int) : List (Int × List UInt8) := z.map fun x => (x, spK s co (UInt8.ofNat x.toNat) s.length)
theorem wnK_take (s : List UInt8) (co : List (List UInt8)) (z : List Int) (k : Nat) (h : k < z.length) : wnK s co (z.take (k + 1)) = wnK s co (z.take k) ++ [(gI z k, spK s co (UInt8.ofNat (gI z k).toNat) s.length)] := by
  rw [List.take_succ_eq_append_getElem h, gI_eq h, wnK, List.map_append]; rfl
theorem ltB_rows {m : List (List UInt8)} {n : Nat} (h : ltB m n = true) : m.length < 16 ∧ ∀ j, j < m.length → (gR m j).length = n := by
  unfold ltB at h
  rw [Bool.and_eq_true, List.all_eq_true] at h
  refine ⟨by simpa using h.2, fun j hj => ?_⟩
  have h1 := h.1 j (List.mem_range.2 hj)
  have h2 : ((gR m j).length : Int) = (n : Int) := by simpa using h1
  omega
theorem wn_spl {s : List UInt8} {co : List (List UInt8)} (hr : ∀ j, j < co.length → (gR co j).length = s.length) (z : List Int) : splS s co z = wnK s co z := by
  unfold splS wnK
  exact List.map_congr_left fun x _ => by rw [spl_share hr]
theorem spl_no {s : List UInt8} {co : List (List UInt8)} {z : List Int} (h : (ltB co s.length && xsB z) = false) : splE s co z = 1 ∧ splL s co z = [] := by
  have h1 : splE s co z = 1 := by unfold splE; rw [h]; rfl
  exact ⟨h1, by unfold splL; rw [h1]; rfl⟩
theorem spl_big {s : List UInt8} {co : List (List UInt8)} {z : List Int} (h : (ltB co s.length && xsB z) = true) (hb : 1024 < s.length) : splE s co z = 2 ∧ splL s co z = [] := by
  have h1 : splE s co z = 2 := by unfold splE; rw [h, if_pos rfl, if_pos hb]
  exact ⟨h1, by unfold splL; rw [h1]; rfl⟩
theorem spl_ok {s : List UInt8} {co : List (List UInt8)} {z : List Int} (h : (ltB co s.length && xsB z) = true) (hb : ¬ 1024 < s.length) : splE s co z = 0 ∧ splL s co z = splS s co z := by
  have h1 : splE s co z = 0 := by unfold splE; rw [h, if_pos rfl, if_neg hb]
  exact ⟨h1, by unfold splL; rw [h1]; rfl⟩

/-! ### shares of a sharing -/
theorem spl_zero {s : List UInt8} {co : List (List UInt8)} {z : List Int} (h : splE s co z = 0) : ltB co s.length = true ∧ xsB z = true ∧ s.length ≤ 1024 := by
  unfold splE at h
  cases h1 : (ltB co s.length && xsB z) with
  | false => rw [h1, if_neg (by decide)] at h; exact absurd h (by decide)
  | true =>
    rw [h1, if_pos rfl] at h
    rw [Bool.and_eq_true] at h1
    refine ⟨h1.1, h1.2, ?_⟩
    by_cases h2 : 1024 < s.length
    · rw [if_pos h2] at h; exact absurd h (by decide)
    · omega
section
variable {s : List UInt8} {co : List (List UInt8)} {z : List Int}
theorem wnK_length : (wnK s co z).length = z.length := by rw [wnK, List.length_map]
theorem gS_wnK {i : Nat} (h : i < z.length) : gS (wnK s co z) i = (gI z i, spK s co (UInt8.ofNat (gI z i).toNat) s.length) := by
  rw [gS_eq (by rw [wnK_length]; exact h), gI_eq h]; simp [wnK]
theorem gX_wnK {i : Nat} (h : i < z.length) : gX (wnK s co z) i = UInt8.ofNat (gI z i).toNat := by rw [gX, gS_wnK h]
theorem wnK_eql : Eql (wnK s co z) s.length := fun k hk => by
  rw [wnK_length] at hk
  rw [gS_wnK hk]; exact spK_length _ _ _ _
theorem wnK_val {i b : Nat} (h : i < z.length) (hb : b < s.length) : gB (gS (wnK s co z) i).2 b = Py.ev (spP s co b) (gX (wnK s co z) i) := by
  rw [gX_wnK h, gS_wnK h]
  show gB (spK s co _ s.length) b = _
  rw [spK, gB_tab _ hb, rv_ev]
theorem xsL_wnK : xsL (wnK s co z) = z := by
  unfold xsL wnK; rw [List.map_map]
  exact (List.map_congr_left fun _ _ => rfl).trans (List.map_id z)
theorem wnK_sh (hz : xsB z = true) (hn : s.length ≤ 1024) : shB (wnK s co z) = true := by
  rw [shB_all (fun i hi => ?_), xsL_wnK]
  · exact hz
  · unfold dOk
    refine decide_eq_true ⟨?_, ?_⟩
    · rw [wnK_eql i hi, wnK_eql 0 (by omega)]
    · rw [wnK_eql i hi]; exact hn
end

/-! ### coefficients that fit -/
theorem gR_ge {m : List (List UInt8)} {r : Nat} (h : m.length ≤ r) : gR m r = [] := by unfold gR; rw [List.getD_eq_getElem?_getD, List.getElem?_eq_none h]; rfl
theorem ev_at0 : ∀ p : List UInt8, Py.ev p 0 = gB p 0
  | [] => rfl
  | a :: l => by rw [Py.ev_cons, mul_zero, Py.z_xor]; rfl
section
variable {s : List UInt8} {l : List (Int × List UInt8)}
theorem fiX_length : (fiX l).length = l.length + 1 := by rw [fiX, List.length_cons, coX, tab_length]
theorem gB_fiX {i : Nat} (h : i < l.length) : gB (fiX l) (i + 1) = gX l i := by rw [fiX, gB_cons_succ, coX, gB_tab _ h]
theorem fiP_length (b : Nat) : (fiP s l b).length ≤ l.length + 1 := by
  have := Py.itP_length (fiX l) (fiY s l b)
  rw [fiX_length] at this; exact this
theorem fiP_zero (hd : Py.Dst (fiX l)) (b : Nat) : gB (fiP s l b) 0 = gB s b := by
  have h1 := Py.itP_value (ys := fiY s l b) hd (i := 0) (by rw [fiX_length]; omega)
  rw [show gB (fiX l) 0 = 0 from rfl, ev_at0] at h1
  exact h1
theorem fiP_val (hd : Py.Dst (fiX l)) {b i : Nat} (hi : i < l.length) : Py.ev (fiP s l b) (gX l i) = gB (gS l i).2 b := by
  have h1 := Py.itP_value (ys := fiY s l b) hd (i := i + 1) (by rw [fiX_length]; omega)
  rw [gB_fiX hi] at h1
  rw [fiP, h1, fiY, gB_cons_succ, coY, gB_tab _ hi]
theorem fiM_length : (fiM s l).length = l.length := by rw [fiM, List.length_map, List.length_range]
theorem gR_fiM {r : Nat} (h : r < l.length) : gR (fiM s l) r = tab s.length fun j => gB (fiP s l j) (r + 1) := by
  rw [gR_eq (by rw [fiM_length]; exact h)]; simp [fiM]
theorem fiM_rows {r : Nat} (h : r < l.length) : (gR (fiM s l) r).length = s.length := by rw [gR_fiM h, tab_length]
theorem gB_col {m : List (List UInt8)} {b r : Nat} : gB (m.map fun r => gB r b) r = gB (gR m r) b := by
  by_cases h : r < m.length
  · rw [gB_eq (by rw [List.length_map]; exact h), gR_eq h]; simp
  · rw [gB_ge (by rw [List.length_map]; omega), gR_ge (by omega)]; rfl
theorem fi_coef (hd : Py.Dst (fiX l)) {b : Nat} (hb : b < s.length) (k : Nat) : gB (spP s (fiM s l) b) k = gB (fiP s l b) k := by
  cases k with
  | zero => rw [fiP_zero hd]; rfl
  | succ r =>
    rw [spP, gB_cons_succ, gB_col]
    by_cases h : r < l.length
    · rw [gR_fiM h, gB_tab _ hb]
    · rw [gR_ge (by rw [fiM_length]; omega), gB_ge (l := fiP s l b) (by have := fiP_length (s := s) (l := l) b; omega)]; rfl
theorem fi_same {co : List (List UInt8)} {z : List Int} {o : List UInt8} (ho : o.length = s.length) (hd : Py.Dst (fiX (wnK s co z))) : wnK o (fiM o (wnK s co z)) z = wnK s co z := by
  obtain ⟨l, hl⟩ : ∃ l, l = wnK s co z := ⟨_, rfl⟩
  have hn : l.length = z.length := by rw [hl, wnK_length]
  rw [← hl] at hd ⊢
  apply List.ext_getElem (by rw [wnK_length, hn])
  intro i h1 h2
  rw [← gS_eq h1, ← gS_eq h2]
  have hi : i < z.length := by rw [wnK_length] at h1; exact h1
  have e1 : gS l i = (gI z i, spK s co (UInt8.ofNat (gI z i).toNat) s.length) := by rw [hl]; exact gS_wnK hi
  rw [gS_wnK hi, e1]
  refine Prod.ext rfl ?_
  show spK o (fiM o l) _ o.length = spK s co _ s.length
  refine gB_ext (by rw [spK_length, spK_length, ho]) fun b hb => ?_
  rw [spK_length] at hb
  have hX : UInt8.ofNat (gI z i).toNat = gX l i := by rw [gX, e1]
  rw [hX]
  have e2 := fiP_val (s := o) hd (b := b) (i := i) (by omega)
  rw [e1] at e2
  rw [spK, gB_tab _ hb, rv_ev, Py.ev_congr (fi_coef hd hb), e2, hX]
theorem fi_back {co : List (List UInt8)} {z : List Int} (hz : z.length = co.length) (hr : ∀ j, j < co.length → (gR co j).length = s.length) (hd : Py.Dst (fiX (wnK s co z))) : fiM s (wnK s co z) = co := by
  refine gR_ext (by rw [fiM_length, wnK_length, hz]) fun r hrl => ?_
  rw [fiM_length, wnK_length] at hrl
  refine gB_ext (by rw [fiM_rows (by rw [wnK_length]; exact hrl), hr r (by omega)]) fun b hb => ?_
  rw [fiM_rows (by rw [wnK_length]; exact hrl)] at hb
  rw [gR_fiM (by rw [wnK_length]; exact hrl), gB_tab _ hb]
  have h1 := Py.unique (p := fiP s (wnK s co z) b) (q := spP s co b) hd (by rw [fiX_length]; exact fiP_length b) (by rw [fiX_length, wnK_length, spP, List.length_cons, List.length_map, hz]; exact Nat.le_refl _) (fun i hi => by
    cases i with
    | zero => rw [show gB (fiX (wnK s co z)) 0 = 0 from rfl, ev_at0, ev_at0, fiP_zero hd]; rfl
    | succ i =>
      rw [fiX_length] at hi
      have hi2 : i < (wnK s co z).length := by omega
      rw [gB_fiX hi2, fiP_val hd hi2, wnK_val (by rw [wnK_length] at hi2; exact hi2) hb]) (r + 1)
  rw [h1, spP, gB_cons_succ, gB_col]
end
end Go.Proofs.Ytakedococfklgaa
/- kinkeeplaw10.some: two lists of shares, chosen by a test of the index. -/
namespace Go.Proofs.Ytakedococfklgaa
open Go.RowKit Gf

/-- A row of shares that the call owns; their bytes lie in the older world w0. -/
def OwnP (w0 w : World) (v : Value) (n : Nat) (l : List (Int × List UInt8)) : Prop :=
  l.length = n ∧ ∃ q : List (Int × Value), q.length = n ∧ w.ownsRow w0.heap.size 33 2 v n (shC q) ∧ ∀ j, j < n → ∃ A k c, q[j]? = some ((gS l j).1, .slice A k c) ∧ BS w0 A k c (gS l j).2
theorem OwnP.nil (w0 w : World) : OwnP w0 w (.slice none 0 0) 0 [] := ⟨rfl, [], rfl, World.ownsRow_nil _ _ _ _, fun j hj => absurd hj (by omega)⟩
theorem OwnP.kp {S : Nat → Prop} {w0 w w1 : World} {v : Value} {n : Nat} {l : List (Int × List UInt8)} (h : OwnP w0 w v n l) (hk : Kp S w w1) (hn : ∀ g, v.ownBlock = some g → ¬ S g) : OwnP w0 w1 v n l := by
  obtain ⟨h1, q, h2, h3, h4⟩ := h
  exact ⟨h1, q, h2, own2 hk h3 hn, h4⟩
theorem OwnP.base {w0 w : World} {v : Value} {n : Nat} {l : List (Int × List UInt8)} (h : OwnP w0 w v n l) : ∀ k, v.ownBlock = some k → w0.heap.size ≤ k ∧ k < w.heap.size := fun k hk => by
  obtain ⟨_, q, _, hown, _⟩ := h
  exact hown.lt k hk
theorem OwnP.push {w0 w w' : World} {v v' : Value} {n : Nat} {l : List (Int × List UInt8)} {q : List (Int × Value)} (hm : l.length = n) (hq : q.length = n)
    (hps : ∀ j, j < n → ∃ A k c, q[j]? = some ((gS l j).1, .slice A k c) ∧ BS w0 A k c (gS l j).2)
    {A : Option Addr} {k c : Nat} {x : Int} {d : List UInt8} (hl : BS w0 A k c d)
    (hp : AppS w0.heap.size 33 v n (shC q ++ [.int .i64 x, .slice A k c]) v' w w') : OwnP w0 w' v' (n + 1) (l ++ [(x, d)]) := by
  refine ⟨by simp [hm], q ++ [(x, .slice A k c)], by simp [hq], by rw [shC_append]; exact hp.1, fun j hj => ?_⟩
  by_cases hjn : j < n
  · obtain ⟨A1, k1, c1, h1, h2⟩ := hps j hjn
    exact ⟨A1, k1, c1, by rw [List.getElem?_append_left (by omega), gS_append_left (by omega)]; exact h1, by rw [gS_append_left (by omega)]; exact h2⟩
  · obtain rfl : j = n := by omega
    refine ⟨A, k, c, ?_, ?_⟩
    · rw [List.getElem?_append_right (by omega), hq, Nat.sub_self, ← hm, gS_append_self]; rfl
    · rw [← hm, gS_append_self]; exact hl
theorem OwnP.own {w0 w : World} {v : Value} {n : Nat} {l : List (Int × List UInt8)} (h : OwnP w0 w v n l) (hb : Below w0.heap.size w0 w) : OwnS w w0.heap.size v n l := by
  obtain ⟨h1, q, h2, h3, h4⟩ := h
  refine ⟨h1, q, h2, h3, fun j hj => ?_⟩
  obtain ⟨A, k, c, e1, e2⟩ := h4 j hj
  refine ⟨A, k, c, e1, e2.kept hb, fun h0 a ea e' => ?_⟩
  obtain ⟨g, o, e3, hc⟩ := e2.2.2.2 0 h0
  rw [ea] at e3
  injection e3 with e3
  have h5 := cell_lt hc
  have h6 := (h3.lt a.block e').1
  rw [e3] at h6
  simp only at h5 h6
  omega

/-- Two rows at once. -/
def Two (w0 w : World) (v v' : Value) (n n' : Nat) (l l' : List (Int × List UInt8)) : Prop :=
  OwnP w0 w v n l ∧ OwnP w0 w v' n' l' ∧ ∀ g, v.ownBlock = some g → v'.ownBlock ≠ some g
/-- The shares whose index passes. -/
def pkK (l : List (Int × List UInt8)) (P : Nat → Bool) : Nat → List (Int × List UInt8)
  | 0 => []
  | k + 1 => if P k then pkK l P k ++ [gS l k] else pkK l P k
theorem pkK_le (l : List (Int × List UInt8)) (P : Nat → Bool) : ∀ k, (pkK l P k).length ≤ k
  | 0 => Nat.le_refl _
  | k + 1 => by
    have := pkK_le l P k
    rw [pkK]; split
    · rw [List.length_append]; simp; omega
    · omega
/-- The test of the set. -/
def stB (x : Int) (i : Nat) : Bool := bits .and .u16 (x / 2 ^ (i % 16)) 1 == 1

set_option maxRecDepth 100000 in
set_option maxHeartbeats 1000000 in
theorem some_any (A : Option Addr) (n c : Nat) (l : List (Int × List UInt8)) (x : Int) (w : World) (h : SS w A n c l) (h64 : n ≤ 64) (_hx0 : 0 ≤ x) (_hx1 : x < 65536) :
    Calls Try.prog 31 #[.slice A n c, .int .u16 x] w fun e w' => ∃ v v', e = .returned (.tuple #[v, v']) ∧ OwnS w' w.heap.size v (pkK l (stB x) n).length (pkK l (stB x) n) ∧ OwnS w' w.heap.size v' (pkK l (fun i => !stB x i) n).length (pkK l (fun i => !stB x i) n) ∧ Below w.heap.size w w' := by
  have hn := h.len_le
  have H := Lib.hid h
  have H64 := Lib.hid h64
  clear h h64
  go_enter Try.func31, Try.ntmps31
  go_wp2_with fail
  go_loopw [6, 7, 12] (fun v v' i wr => ∃ k : Nat, k ≤ n ∧ i = .int .i64 (k : Int) ∧ Hid (Two w wr v v' (pkK l (stB x) k).length (pkK l (fun i => !stB x i) k).length (pkK l (stB x) k) (pkK l (fun i => !stB x i) k)) ∧ Hid (Below w.heap.size w wr)) (fun _ _ i _ => n - (intOf i).toNat)
  case atStart => exact ⟨0, by omega, rfl, Lib.hid ⟨OwnP.nil _ _, OwnP.nil _ _, fun g e => by simp [Value.ownBlock] at e⟩, Lib.hid (Below.refl _ _)⟩
  case round =>
    obtain ⟨k, hk, rfl, ht, hb⟩ := hrel
    by_cases hlt : k < n
    · obtain ⟨g1, o1, A1, n1, c1, rfl, q1, q2, q3⟩ := H.out.at_ hb.out hlt
      obtain ⟨y, hy⟩ : ∃ y, y = (gS l k).1 := ⟨_, rfl⟩
      rw [← hy] at q1
      have HY := Lib.hid hy
      clear hy
      have HQ3 : Hid (BS w A1 n1 c1 (gS l k).2) := Lib.hid (by
        obtain ⟨g2, o2, A2, n2, c2, e1, r1, r2, r3⟩ := H.out.2.2.2 k hlt
        injection e1 with e1
        injection e1 with e11 e12
        subst e11 e12
        have := cell_kept hb.out r2
        rw [q2] at this
        injection this with this
        injection this with f1 f2 f3
        subst f1 f2 f3
        exact r3)
      clear q3
      obtain ⟨t1, t2, t3⟩ := ht.out
      obtain ⟨W7, hW7⟩ : ∃ W, W = (wr.alloc (.cells #[.int .i64 y, .slice A1 n1 c1] 33)).alloc (.cells #[.int .i64 y, .slice A1 n1 c1] 33) := ⟨_, rfl⟩
      have hb7 : Below wr.heap.size wr W7 := by rw [hW7]; exact below_then (kb1 _ _) (kb1 _ _)
      have k7 : Blk W7 (wr.heap.size + 1) 33 #[.int .i64 y, .slice A1 n1 c1] := by rw [hW7]; exact blk_at (by simp) _ _
      have s7 : W7.heap.size = wr.heap.size + 1 + 1 := by rw [hW7]; simp
      have HB7 := Lib.hid (below_then hb.out hb7)
      subst hW7
      clear ht hb
      cases hst : stB x k with
      | true =>
        have hst' : (bits .and .u16 (x / 2 ^ (k % 16)) 1 == 1) = true := hst
        have HE1 : Hid (pkK l (stB x) (k + 1) = pkK l (stB x) k ++ [gS l k]) := Lib.hid (by rw [pkK, hst]; rfl)
        have HE2 : Hid (pkK l (fun i => !stB x i) (k + 1) = pkK l (fun i => !stB x i) k) := Lib.hid (by rw [pkK, hst]; rfl)
        clear hst
        obtain ⟨hm7, q, hq, hown7, hps7⟩ := t1.kp (S := fun _ => False) (Kp.of_below hb7) (fun _ _ => id)
        have HOT := Lib.hid (t2.kp (S := fun _ => False) (Kp.of_below hb7) (fun _ _ => id))
        have HBO := Lib.hid (t2.base)
        have HBA := Lib.hid (t1.base)
        have HW7 := Lib.hid hown7
        have HPS7 := Lib.hid hps7
        have HM7 := Lib.hid hm7
        have HQ7 := Lib.hid hq
        have HNE := Lib.hid t3
        have HK7 := Lib.hid k7
        have HS7 := Lib.hid s7
        have HK32 : Hid (((pkK l (stB x) k).length + 1) * 32 ≤ 140737488355328) := Lib.hid (by have := H64.out; have := pkK_le l (stB x) k; omega)
        clear hown7 hps7 hm7 hq t1 t2 t3 hb7 k7 s7
        go_wp2_with (first
          | (at_builtin; refine wpList_appS _ rfl (.tmp 23) (.tmp 25) rfl w.heap.size u6 _ (shC q) rfl HW7.out (wr.heap.size + 1) 1 33 (.int .i64 y) (.slice A1 n1 c1) rfl HK7.out rfl rfl HK32.out HB7.out.size ?_; intro v8 w8 hp8))
        have hK8 : Kp (fun b => u6.ownBlock = some b) _ w8 := (Kp.refl _ _).grown hp8.2.1 (fun _ e => .inl e)
        have p8 := OwnP.push HM7.out HQ7.out HPS7.out HQ3.out hp8
        have o8 := HOT.out.kp hK8 (fun g e1 e2 => HNE.out g e2 e1)
        have HB8 : Hid (Below w.heap.size w w8) := Lib.hid (HB7.out.grown hp8.2.1 HB7.out.size (fun b hb' => (HBA.out b hb').1))
        have HT8 : Hid (Two w w8 v8 u7 (pkK l (stB x) (k + 1)).length (pkK l (fun i => !stB x i) (k + 1)).length (pkK l (stB x) (k + 1)) (pkK l (fun i => !stB x i) (k + 1))) := Lib.hid (by
          rw [HE1.out, HE2.out]
          rw [HY.out] at p8
          rw [show ∀ L : List (Int × List UInt8), (L ++ [gS l k]).length = L.length + 1 from fun L => by simp]
          refine ⟨p8, o8, fun g e1 e2 => ?_⟩
          rcases hp8.2.2 with h9 | h9
          · exact HNE.out g (h9.symm.trans e1) e2
          · rw [h9] at e1; injection e1 with e1; have h10 := (HBO.out g e2).2; have h11 := HS7.out; omega)
        clear hp8 hK8 p8 o8
        go_wp2_with fail
        go_roundw
        case rel => exact ⟨k + 1, by omega, by go_num, HT8, HB8⟩
        case measure => simp [intOf]; omega
      | false =>
        have hst' : (bits .and .u16 (x / 2 ^ (k % 16)) 1 == 1) = false := hst
        have HE1 : Hid (pkK l (stB x) (k + 1) = pkK l (stB x) k) := Lib.hid (by rw [pkK, hst]; rfl)
        have HE2 : Hid (pkK l (fun i => !stB x i) (k + 1) = pkK l (fun i => !stB x i) k ++ [gS l k]) := Lib.hid (by rw [pkK, hst]; rfl)
        clear hst
        obtain ⟨hm7, q, hq, hown7, hps7⟩ := t2.kp (S := fun _ => False) (Kp.of_below hb7) (fun _ _ => id)
        have HOT := Lib.hid (t1.kp (S := fun _ => False) (Kp.of_below hb7) (fun _ _ => id))
        have HBO := Lib.hid (t1.base)
        have HBA := Lib.hid (t2.base)
        have HW7 := Lib.hid hown7
        have HPS7 := Lib.hid hps7
        have HM7 := Lib.hid hm7
        have HQ7 := Lib.hid hq
        have HNE := Lib.hid t3
        have HK7 := Lib.hid k7
        have HS7 := Lib.hid s7
        have HK32 : Hid (((pkK l (fun i => !stB x i) k).length + 1) * 32 ≤ 140737488355328) := Lib.hid (by have := H64.out; have := pkK_le l (fun i => !stB x i) k; omega)
        clear hown7 hps7 hm7 hq t1 t2 t3 hb7 k7 s7
        go_wp2_with (first
          | (at_builtin; refine wpList_appS _ rfl (.tmp 27) (.tmp 29) rfl w.heap.size u7 _ (shC q) rfl HW7.out (wr.heap.size + 1) 1 33 (.int .i64 y) (.slice A1 n1 c1) rfl HK7.out rfl rfl HK32.out HB7.out.size ?_; intro v8 w8 hp8))
        have hK8 : Kp (fun b => u7.ownBlock = some b) _ w8 := (Kp.refl _ _).grown hp8.2.1 (fun _ e => .inl e)
        have p8 := OwnP.push HM7.out HQ7.out HPS7.out HQ3.out hp8
        have o8 := HOT.out.kp hK8 (fun g e1 e2 => HNE.out g e1 e2)
        have HB8 : Hid (Below w.heap.size w w8) := Lib.hid (HB7.out.grown hp8.2.1 HB7.out.size (fun b hb' => (HBA.out b hb').1))
        have HT8 : Hid (Two w w8 u6 v8 (pkK l (stB x) (k + 1)).length (pkK l (fun i => !stB x i) (k + 1)).length (pkK l (stB x) (k + 1)) (pkK l (fun i => !stB x i) (k + 1))) := Lib.hid (by
          rw [HE1.out, HE2.out]
          rw [HY.out] at p8
          rw [show ∀ L : List (Int × List UInt8), (L ++ [gS l k]).length = L.length + 1 from fun L => by simp]
          refine ⟨o8, p8, fun g e1 e2 => ?_⟩
          rcases hp8.2.2 with h9 | h9
          · exact HNE.out g e1 (h9.symm.trans e2)
          · rw [h9] at e2; injection e2 with e2; have h10 := (HBO.out g e1).2; have h11 := HS7.out; omega)
        clear hp8 hK8 p8 o8
        go_wp2_with fail
        go_roundw
        case rel => exact ⟨k + 1, by omega, by go_num, HT8, HB8⟩
        case measure => simp [intOf]; omega
    · obtain rfl : k = n := by omega
      have HT9 := Lib.hid (ht.out.1.own hb.out)
      have HT8 := Lib.hid (ht.out.2.1.own hb.out)
      go_wp2_with fail
      go_ret2
      exact ⟨_, _, rfl, HT9.out, HT8.out, hb.out⟩
end Go.Proofs.Ytakedococfklgaa
/- Plain: shares of one sharing, in any number and order: they are valid, agree, and give every other share. -/
namespace Go.Proofs.Ytakedococfklgaa
open Go.RowKit Gf

/-- m consists of shares of the sharing (s, co), at different elements. -/
structure Good (m : List (Int × List UInt8)) (s : List UInt8) (co : List (List UInt8)) : Prop where
  x : ∀ i, i < m.length → 1 ≤ (gS m i).1 ∧ (gS m i).1 ≤ 255
  d : ∀ i, i < m.length → (gS m i).2 = spK s co (gX m i) s.length
  n : ∀ i j, j < i → i < m.length → (gS m j).1 ≠ (gS m i).1

theorem gX_take {m : List (Int × List UInt8)} {t i : Nat} (h : i < t) : gX (m.take t) i = gX m i := by rw [gX, gX, gS_take h]
theorem gI_xsL {m : List (Int × List UInt8)} {i : Nat} (h : i < m.length) : gI (xsL m) i = (gS m i).1 := by
  rw [gI_eq (by rw [xsL, List.length_map]; exact h), gS_eq h]; simp [xsL]
theorem sh_of {m : List (Int × List UInt8)} {L : Nat} (h64 : m.length ≤ 64) (hE : Eql m L) (hL : L ≤ 1024) (hx : ∀ i, i < m.length → 1 ≤ (gS m i).1 ∧ (gS m i).1 ≤ 255) (hn : ∀ i j, j < i → i < m.length → (gS m j).1 ≠ (gS m i).1) : shB m = true := by
  rw [shB_all (fun i hi => ?_)]
  · have hl : (xsL m).length = m.length := by rw [xsL, List.length_map]
    refine xsB_true (by rw [hl]; exact h64) (fun i hi => ?_)
    rw [hl] at hi
    unfold xOk
    rw [gI_xsL hi, vX_iff.2 (hx i hi)]
    have : (List.range i).any (fun j => gI (xsL m) j == (gS m i).1) = false := by
      rw [List.any_eq_false]; intro j hj
      have hj' := List.mem_range.1 hj
      rw [gI_xsL (by omega)]
      simpa using hn i j hj' hi
    rw [this]; rfl
  · unfold dOk
    exact decide_eq_true ⟨by rw [hE i hi, hE 0 (by omega)], by rw [hE i hi]; exact hL⟩

section
variable {m : List (Int × List UInt8)} {s : List UInt8} {co : List (List UInt8)}
theorem Good.eql (h : Good m s co) : Eql m s.length := fun i hi => by rw [h.d i hi, spK_length]
theorem Good.sh (h : Good m s co) (h64 : m.length ≤ 64) (hL : s.length ≤ 1024) : shB m = true := sh_of h64 h.eql hL h.x h.n
theorem Good.val (h : Good m s co) {i b : Nat} (hi : i < m.length) (hb : b < s.length) : gB (gS m i).2 b = Py.ev (spP s co b) (gX m i) := by
  rw [h.d i hi, spK, gB_tab _ hb, rv_ev]
theorem Good.dst (h : Good m s co) : Py.Dst (Py.xsU m) := fun i j hij hj e => by
  rw [Py.xsU_length] at hj
  rw [Py.gB_xsU (by omega), Py.gB_xsU hj] at e
  have h1 := h.x i (by omega)
  have h2 := h.x j hj
  have e1 := gX_eq (l := m) (k := i) (by omega) (by omega)
  have e2 := gX_eq (l := m) (k := j) (by omega) (by omega)
  exact h.n j i hij hj (by rw [e1, e2, e])
theorem Good.take (h : Good m s co) (t : Nat) : Good (m.take t) s co := by
  have hl : ∀ i, i < (m.take t).length → i < t ∧ i < m.length := fun i hi => by rw [List.length_take] at hi; omega
  exact ⟨fun i hi => by rw [gS_take (hl i hi).1]; exact h.x i (hl i hi).2, fun i hi => by rw [gS_take (hl i hi).1, gX_take (hl i hi).1]; exact h.d i (hl i hi).2, fun i j hj hi => by rw [gS_take (hl i hi).1, gS_take (by have := (hl i hi).1; omega)]; exact h.n i j hj (hl i hi).2⟩
theorem Good.vl (h : Good m s co) (hl : m.length = co.length + 1) (X : UInt8) : vlA m X = spK s co X s.length := by
  have hE := h.eql
  have h0 : (gS m 0).2.length = s.length := hE 0 (by omega)
  have hv : (vlK m X s.length m.length).length = s.length := vlK_length hE X _ (Nat.le_refl _)
  unfold vlA
  rw [h0]
  refine gB_ext (by rw [hv, spK_length]) fun b hb => ?_
  rw [hv] at hb
  rw [Py.vl_ev hE hb h.dst (p := spP s co b) (by rw [spP, List.length_cons, List.length_map, hl]; exact Nat.le_refl _) (fun j hj => (h.val hj hb).symm) X, spK, gB_tab _ hb, rv_ev]
theorem Good.vlt (h : Good m s co) {t : Nat} (ht : t = co.length + 1) (hl : t ≤ m.length) (X : UInt8) : vlA (m.take t) X = spK s co X s.length :=
  (h.take t).vl (by rw [List.length_take]; omega) X
theorem Good.ag (h : Good m s co) {t : Nat} (ht : t = co.length + 1) : agB m t = true := agB_true fun i hti hi => by
  unfold agK
  exact decide_eq_true (by rw [h.vlt ht (by omega), h.d i hi])
theorem spK_zero (s : List UInt8) (co : List (List UInt8)) : spK s co 0 s.length = s := by
  refine gB_ext (spK_length _ _ _ _) fun b hb => ?_
  rw [spK_length] at hb
  rw [spK, gB_tab _ hb, rv_ev, ev_at0]; rfl
theorem Good.short (h : Good m s co) (h64 : m.length ≤ 64) (hL : s.length ≤ 1024) {t : Nat} (ht1 : 1 ≤ t) (ht2 : t ≤ 16) (hl : m.length < t) : ckE m (t : Int) = 10 ∧ cbL m (t : Int) 0 = [] := by
  have h1 : ckE m (t : Int) = 10 := by
    unfold ckE
    rw [h.sh h64 hL, vT_iff.2 ⟨by omega, by omega⟩, Bool.and_self, if_pos rfl, if_pos (by omega)]
  exact ⟨h1, by unfold cbL; rw [h1, if_neg (by decide)]⟩
theorem Good.ok (h : Good m s co) (h64 : m.length ≤ 64) (hL : s.length ≤ 1024) {t : Nat} (ht2 : t ≤ 16) (ht : t = co.length + 1) (hl : t ≤ m.length) : ckE m (t : Int) = 0 ∧ cbL m (t : Int) 0 = s := by
  have h1 : ckE m (t : Int) = 0 := by
    unfold ckE
    rw [h.sh h64 hL, vT_iff.2 ⟨by omega, by omega⟩, Bool.and_self, if_pos rfl, if_neg (by omega), show (t : Int).toNat = t by omega, h.ag ht, if_pos rfl]
  refine ⟨h1, ?_⟩
  unfold cbL
  rw [h1, if_pos rfl, show (t : Int).toNat = t by omega, h.vlt ht hl, spK_zero]
theorem Good.ext (h : Good m s co) (h64 : m.length ≤ 64) (hL : s.length ≤ 1024) {t : Nat} (ht2 : t ≤ 16) (ht : t = co.length + 1) (hl : t ≤ m.length) {x : Int} (hx : vX x = true) : exE m (t : Int) x = 0 ∧ exX m (t : Int) x = x ∧ exL m (t : Int) x = spK s co (UInt8.ofNat x.toNat) s.length := by
  have h1 : exE m (t : Int) x = 0 := by unfold exE; rw [hx, if_pos rfl, (h.ok h64 hL ht2 ht hl).1]
  refine ⟨h1, by unfold exX; rw [h1, if_pos rfl], ?_⟩
  unfold exL
  rw [h1, if_pos rfl, show (t : Int).toNat = t by omega, h.vlt ht hl]
theorem Good.chk (h : Good m s co) (h64 : m.length ≤ 64) (hL : s.length ≤ 1024) {t : Nat} (ht2 : t ≤ 16) (ht : t = co.length + 1) : chE m (t : Int) = 0 ∧ chB m (t : Int) = true := by
  have h1 : (shB m && vT (t : Int)) = true := by rw [h.sh h64 hL, vT_iff.2 ⟨by omega, by omega⟩]; rfl
  refine ⟨by unfold chE; rw [h1, if_pos rfl], ?_⟩
  unfold chB
  rw [h1, show (t : Int).toNat = t by omega, h.ag ht]; rfl
theorem wnK_good {z : List Int} (hz : xsB z = true) : Good (wnK s co z) s co := by
  obtain ⟨_, h2, h3⟩ := xsB_spec hz
  refine ⟨fun i hi => ?_, fun i hi => ?_, fun i j hj hi => ?_⟩
  · rw [wnK_length] at hi; rw [gS_wnK hi]; exact h2 i hi
  · rw [wnK_length] at hi; rw [gX_wnK hi, gS_wnK hi]
  · rw [wnK_length] at hi; rw [gS_wnK hi, gS_wnK (by omega)]; exact h3 i j hj hi
/-- Which share a chosen one is. -/
theorem pk_map (l : List (Int × List UInt8)) (P : Nat → Bool) : ∀ k, ∃ f : Nat → Nat, (∀ i, i < (pkK l P k).length → f i < k ∧ gS (pkK l P k) i = gS l (f i)) ∧ ∀ i j, j < i → i < (pkK l P k).length → f j < f i
  | 0 => ⟨id, fun i hi => absurd hi (by simp [pkK]), fun i j _ hi => absurd hi (by simp [pkK])⟩
  | k + 1 => by
    obtain ⟨f, h1, h2⟩ := pk_map l P k
    rw [pkK]
    cases hP : P k with
    | false =>
      rw [if_neg (by decide)]
      exact ⟨f, fun i hi => ⟨by have := (h1 i hi).1; omega, (h1 i hi).2⟩, h2⟩
    | true =>
      rw [if_pos rfl]
      refine ⟨fun i => if i < (pkK l P k).length then f i else k, fun i hi => ?_, fun i j hj hi => ?_⟩
      · rw [List.length_append, List.length_singleton] at hi
        by_cases e : i < (pkK l P k).length
        · simp only [if_pos e]
          exact ⟨by have := (h1 i e).1; omega, by rw [gS_append_left e]; exact (h1 i e).2⟩
        · simp only [if_neg e]
          obtain rfl : i = (pkK l P k).length := by omega
          exact ⟨by omega, gS_append_self⟩
      · rw [List.length_append, List.length_singleton] at hi
        by_cases e : i < (pkK l P k).length
        · simp only [if_pos e, if_pos (show j < (pkK l P k).length by omega)]
          exact h2 i j hj e
        · simp only [if_neg e, if_pos (show j < (pkK l P k).length by omega)]
          exact (h1 j (by omega)).1
theorem Good.pk (h : Good m s co) (P : Nat → Bool) : Good (pkK m P m.length) s co := by
  obtain ⟨f, h1, h2⟩ := pk_map m P m.length
  refine ⟨fun i hi => ?_, fun i hi => ?_, fun i j hj hi => ?_⟩
  · rw [(h1 i hi).2]; exact h.x _ (h1 i hi).1
  · rw [gX, (h1 i hi).2]; exact h.d _ (h1 i hi).1
  · rw [(h1 i hi).2, (h1 j (by omega)).2]; exact h.n _ _ (h2 i j hj hi) (h1 i hi).1
end
end Go.Proofs.Ytakedococfklgaa
/- Plain: shares agree with a threshold exactly when the sharing through all of them has degrees below it. -/
namespace Go.Proofs.Ytakedococfklgaa
open Go.RowKit Gf

section
variable {l : List (Int × List UInt8)} {L t : Nat}
theorem coX_len (l : List (Int × List UInt8)) : (coX l).length = l.length := by rw [coX, tab_length]
theorem gB_coX {i : Nat} (h : i < l.length) : gB (coX l) i = gX l i := by rw [coX, gB_tab _ h]
theorem take_dst (hd : Py.Dst (coX l)) : Py.Dst (Py.xsU (l.take t)) := fun i j hij hj e => by
  rw [Py.xsU_length, List.length_take] at hj
  have hi' : i < (l.take t).length := by rw [List.length_take]; omega
  have hj' : j < (l.take t).length := by rw [List.length_take]; omega
  rw [Py.gB_xsU hi', Py.gB_xsU hj', gX_take (by omega), gX_take (by omega)] at e
  have h1 := hd i j hij (by rw [coX_len]; omega)
  rw [gB_coX (by omega), gB_coX (by omega)] at h1
  exact h1 e
theorem take_eql (hE : Eql l L) : Eql (l.take t) L := fun k hk => by
  rw [List.length_take] at hk
  rw [gS_take (by omega)]; exact hE k (by omega)
theorem it_val (hd : Py.Dst (coX l)) {b i : Nat} (hi : i < l.length) : Py.ev (Py.itP (coX l) (coY l b)) (gX l i) = gB (gS l i).2 b := by
  have h1 := Py.itP_value (ys := coY l b) hd (i := i) (by rw [coX_len]; exact hi)
  rw [gB_coX hi] at h1
  rw [h1, coY, gB_tab _ hi]
theorem vlA_take (hE : Eql l L) (h0 : 0 < t) (ht : t ≤ l.length) (X : UInt8) : vlA (l.take t) X = vlK (l.take t) X L t := by
  unfold vlA
  rw [gS_take (by omega), hE 0 (by omega), List.length_take, Nat.min_eq_left ht]
theorem vlA_len (hE : Eql l L) (h0 : 0 < t) (ht : t ≤ l.length) (X : UInt8) : (vlA (l.take t) X).length = L := by
  rw [vlA_take hE h0 ht]
  exact vlK_length (take_eql hE) X t (by rw [List.length_take]; omega)
theorem tl_itP (xs ys : List UInt8) : (Py.itP xs ys).length = Py.tl (Py.itP xs ys) := by
  rw [Py.itP, Py.trim_length, Py.tl_trim]
/-- From the degrees to the values. -/
theorem bl_vl (hE : Eql l L) (hd : Py.Dst (coX l)) (h0 : 0 < t) (ht : t ≤ l.length) (hb : blB (shgK l L) (t : Int) = true) (X : UInt8) : vlA (l.take t) X = atK (shgK l L) X L := by
  have hlt : (l.take t).length = t := by rw [List.length_take]; omega
  refine gB_ext (by rw [vlA_len hE h0 ht, atK_length]) fun b hbL => ?_
  rw [vlA_len hE h0 ht] at hbL
  have hg : gR (shgK l L) b = Py.itP (coX l) (coY l b) := by rw [gR_eq (by rw [shgK_length]; exact hbL)]; simp [shgK]
  unfold blB at hb
  rw [List.all_eq_true] at hb
  have h1 := hb b (List.mem_range.2 (by rw [shgK_length]; exact hbL))
  rw [hg] at h1
  have h2 : (Py.tl (Py.itP (coX l) (coY l b)) : Int) - 1 < (t : Int) := of_decide_eq_true h1
  have h3 := Py.vl_ev (take_eql (t := t) hE) hbL (take_dst hd) (p := Py.itP (coX l) (coY l b)) (by rw [tl_itP, hlt]; omega) (fun j hj => by
    rw [hlt] at hj
    rw [gX_take hj, gS_take hj]; exact it_val hd (by omega)) X
  rw [hlt] at h3
  rw [vlA_take hE h0 ht, h3, atK, gB_tab _ hbL, hg]
theorem at_val (hE : Eql l L) (hd : Py.Dst (coX l)) {i : Nat} (hi : i < l.length) : atK (shgK l L) (gX l i) L = (gS l i).2 := by
  refine gB_ext (by rw [atK_length, hE i hi]) fun b hb => ?_
  rw [atK_length] at hb
  have hg : gR (shgK l L) b = Py.itP (coX l) (coY l b) := by rw [gR_eq (by rw [shgK_length]; exact hb)]; simp [shgK]
  rw [atK, gB_tab _ hb, hg, it_val hd hi]
theorem ag_bl (hE : Eql l L) (hd : Py.Dst (coX l)) (h0 : 0 < t) (ht : t ≤ l.length) : agB l t = blB (shgK l L) (t : Int) := by
  have hlt : (l.take t).length = t := by rw [List.length_take]; omega
  cases hbl : blB (shgK l L) (t : Int) with
  | true =>
    refine agB_true fun i _ hi => ?_
    unfold agK
    exact decide_eq_true (by rw [bl_vl hE hd h0 ht hbl, at_val hE hd hi])
  | false =>
    cases hag : agB l t with
    | false => rfl
    | true =>
      refine absurd hbl ?_
      rw [Bool.not_eq_false]
      unfold blB
      rw [List.all_eq_true]
      intro b hb
      rw [List.mem_range, shgK_length] at hb
      have hg : gR (shgK l L) b = Py.itP (coX l) (coY l b) := by rw [gR_eq (by rw [shgK_length]; exact hb)]; simp [shgK]
      rw [hg]
      obtain ⟨s, s1, s2⟩ := Py.vl_poly (take_eql (t := t) hE) hb t (by rw [hlt]; exact Nat.le_refl _)
      rw [hlt] at s1
      have hco := Py.unique (p := s) (q := Py.itP (coX l) (coY l b)) hd (by rw [coX_len]; omega) (Py.itP_length _ _) (fun i hi => by
        rw [coX_len] at hi
        rw [gB_coX hi, it_val hd hi, s2]
        by_cases hit : i < t
        · have := Py.vl_at (take_eql (t := t) hE) hb (take_dst hd) (j := i) (by rw [hlt]; exact hit) t (by rw [hlt]; exact Nat.le_refl _)
          rw [gX_take hit, gS_take hit, if_pos hit] at this
          exact this
        · unfold agB at hag
          rw [List.all_eq_true] at hag
          have h1 := hag i (List.mem_range.2 hi)
          have h2 : agK l t i = true := by simpa [hit] using h1
          unfold agK at h2
          have h3 := of_decide_eq_true h2
          rw [vlA_take hE h0 ht] at h3
          rw [h3])
      refine decide_eq_true ?_
      have h4 : Py.tl (Py.itP (coX l) (coY l b)) ≤ t := Py.tl_le_of fun k hk => by rw [← hco k]; exact gB_ge (by omega)
      omega
end
end Go.Proofs.Ytakedococfklgaa
/- Plain: what Combine, Extend and Check return is what the reference's Agreed says. -/
namespace Go.Proofs.Ytakedococfklgaa
open Go.RowKit Gf

section
variable {l : List (Int × List UInt8)} {t : Int}
theorem coX_ds (h : shB l = true) : Py.Dst (coX l) := fun i j hij hj e => by
  obtain ⟨_, _, _, sp4, sp5⟩ := shB_spec h
  rw [coX_len] at hj
  rw [gB_coX (by omega), gB_coX hj] at e
  have h1 := sp4 i (by omega)
  have h2 := sp4 j hj
  exact sp5 j i hij hj (by rw [gX_eq (l := l) (k := i) (by omega) (by omega), gX_eq (l := l) (k := j) (by omega) (by omega), e])
theorem eql_ln (h : shB l = true) : Eql l (lnK l) := fun k hk => by
  obtain ⟨_, sp2, _⟩ := shB_spec h
  rw [lnK, if_neg (by omega)]; exact sp2 k hk
theorem ck_ag : ckE l t = agE l t := by
  unfold ckE agE
  cases hs : (shB l && vT t) with
  | false => rfl
  | true =>
    rw [Bool.and_eq_true] at hs
    by_cases hn : (l.length : Int) < t
    · rw [if_pos rfl, if_pos rfl, if_pos hn, if_pos hn]
    · have h1 := vT_iff.1 hs.2
      rw [if_pos rfl, if_pos rfl, if_neg hn, if_neg hn, ag_bl (L := lnK l) (eql_ln hs.1) (coX_ds hs.1) (by omega) (by omega), show ((t.toNat : Nat) : Int) = t by omega]
theorem ag_cases : (agE l t = 1 ∧ (shB l && vT t) = false) ∨ ((shB l && vT t) = true ∧ (agE l t = 10 ∨ agE l t = 13 ∨ agE l t = 0)) := by
  unfold agE
  cases hs : (shB l && vT t) with
  | false => exact .inl ⟨rfl, rfl⟩
  | true =>
    refine .inr ⟨rfl, ?_⟩
    rw [if_pos rfl]
    by_cases hn : (l.length : Int) < t
    · rw [if_pos hn]; exact .inl rfl
    · rw [if_neg hn]
      cases blB (shgK l (lnK l)) t with
      | true => exact .inr (.inr rfl)
      | false => exact .inr (.inl rfl)
theorem ag_bad (h : agE l t = 1) : chE l t = 1 ∧ chB l t = false ∧ cbL l t 0 = [] := by
  rcases ag_cases (l := l) (t := t) with h1 | ⟨_, h2 | h2 | h2⟩
  · refine ⟨by unfold chE; rw [h1.2]; rfl, by unfold chB; rw [h1.2]; rfl, by unfold cbL; rw [ck_ag, h, if_neg (by decide)]⟩
  all_goals (rw [h] at h2; exact absurd h2 (by decide))
theorem ag_good (h : agE l t ≠ 1) : chE l t = 0 ∧ chB l t = decide (agE l t ≠ 13) := by
  rcases ag_cases (l := l) (t := t) with h1 | ⟨hs, h2⟩
  · exact absurd h1.1 h
  refine ⟨by unfold chE; rw [hs]; rfl, ?_⟩
  unfold chB
  rw [hs, Bool.true_and]
  have hs' := hs
  rw [Bool.and_eq_true] at hs'
  have h3 := vT_iff.1 hs'.2
  by_cases hn : (l.length : Int) < t
  · have h4 : agE l t = 10 := by unfold agE; rw [hs, if_pos rfl, if_pos hn]
    rw [h4, agB_true fun i hi hl => absurd hl (by omega)]; rfl
  · have h5 := ag_bl (L := lnK l) (eql_ln hs'.1) (coX_ds hs'.1) (t := t.toNat) (by omega) (by omega)
    rw [show ((t.toNat : Nat) : Int) = t by omega] at h5
    have h4 : agE l t = if blB (shgK l (lnK l)) t then 0 else 13 := by unfold agE; rw [hs, if_pos rfl, if_neg hn]
    rw [h5, h4]
    cases blB (shgK l (lnK l)) t <;> rfl
theorem ag_zero (h : agE l t = 0) (X : UInt8) : vlA (l.take t.toNat) X = atK (agM l t) X (agM l t).length := by
  have hM : agM l t = shgK l (lnK l) := by unfold agM; rw [if_pos h]
  rw [hM, shgK_length]
  rcases ag_cases (l := l) (t := t) with h1 | ⟨hs, _⟩
  · rw [h] at h1; exact absurd h1.1 (by decide)
  have hs' := hs
  rw [Bool.and_eq_true] at hs'
  have h3 := vT_iff.1 hs'.2
  have hn : ¬ (l.length : Int) < t := fun hn => by
    have h4 : agE l t = 10 := by unfold agE; rw [hs, if_pos rfl, if_pos hn]
    rw [h] at h4; exact absurd h4 (by decide)
  have h4 : agE l t = if blB (shgK l (lnK l)) t then 0 else 13 := by unfold agE; rw [hs, if_pos rfl, if_neg hn]
  refine bl_vl (L := lnK l) (eql_ln hs'.1) (coX_ds hs'.1) (by omega) (by omega) ?_ X
  rw [show ((t.toNat : Nat) : Int) = t by omega]
  cases hb : blB (shgK l (lnK l)) t with
  | true => rfl
  | false => rw [h4, hb] at h; exact absurd h (by decide)
end
end Go.Proofs.Ytakedococfklgaa
/- kinkeeplaw10.long. -/
namespace Go.Proofs.Ytakedococfklgaa
open Go.RowKit Gf

/-- Whether shares are more, or longer, than considered. -/
def loB (l : List (Int × List UInt8)) (N M : Nat) : Bool := if N < l.length then decide (l.length ≤ 64) else (List.range l.length).any fun i => decide (M < (gS l i).2.length ∧ (gS l i).2.length ≤ 1024)

set_option maxRecDepth 100000 in
set_option maxHeartbeats 1000000 in
theorem long_any (A : Option Addr) (n c N M : Nat) (l : List (Int × List UInt8)) (w : World) (h : SS w A n c l) :
    Calls Try.prog 18 #[.slice A n c, .int .i64 (N : Int), .int .i64 (M : Int)] w (ChkB (loB l N M) w) := by
  have hn := h.len_le
  have H := Lib.hid h
  have HL := Lib.hid h.1
  clear h
  by_cases hN : N < n
  · have q1 : decide (N < n) = true := by simpa using hN
    by_cases h64 : n ≤ 64
    · have q2 : decide ((n : Int) ≤ 64) = true := by simp; omega
      have HR : Hid (loB l N M = true) := Lib.hid (by unfold loB; rw [HL.out, if_pos hN, decide_eq_true h64])
      clear h64 hN
      go_enter Try.func18, Try.ntmps18
      go_wp2_with fail
      go_ret
      exact ⟨ret_bool HR.out.symm, Below.refl _ _⟩
    · have q2 : decide ((n : Int) ≤ 64) = false := by simp; omega
      have HR : Hid (loB l N M = false) := Lib.hid (by unfold loB; rw [HL.out, if_pos hN, decide_eq_false h64])
      clear h64 hN
      go_enter Try.func18, Try.ntmps18
      go_wp2_with fail
      go_ret
      exact ⟨ret_bool HR.out.symm, Below.refl _ _⟩
  · have q1 : decide (N < n) = false := by simpa using hN
    have HE : Hid (loB l N M = (List.range l.length).any fun i => decide (M < (gS l i).2.length ∧ (gS l i).2.length ≤ 1024)) := Lib.hid (by unfold loB; rw [if_neg (by rw [HL.out]; exact hN)])
    clear hN
    go_enter Try.func18, Try.ntmps18
    go_wp2_with fail
    go_loopw [18] (fun i wr => ∃ k : Nat, k ≤ n ∧ i = .int .i64 (k : Int) ∧ Hid (∀ j, j < k → ¬ (M < (gS l j).2.length ∧ (gS l j).2.length ≤ 1024)) ∧ Hid (Below w.heap.size w wr)) (fun i _ => n - (intOf i).toNat)
    case atStart => exact ⟨0, by omega, rfl, Lib.hid (fun j hj => absurd hj (by omega)), Lib.hid (Below.refl _ _)⟩
    case round =>
      obtain ⟨k, hk, rfl, hall, hb⟩ := hrel
      by_cases hlt : k < n
      · obtain ⟨g1, o1, A1, n1, c1, rfl, r1, r2, r3⟩ := H.out.at_ hb.out hlt
        obtain ⟨y, hy⟩ : ∃ y, y = (gS l k).1 := ⟨_, rfl⟩
        rw [← hy] at r1
        have HN1 := Lib.hid r3.1
        have HB7 := Lib.hid (below_then hb.out (kb1 wr (.cells #[.int .i64 y, .slice A1 n1 c1] 33)))
        clear hy r3
        by_cases e1 : M < n1
        · have t1 : decide (M < n1) = true := by simpa using e1
          by_cases e2 : n1 ≤ 1024
          · have t2 : decide ((n1 : Int) ≤ 1024) = true := by simp; omega
            have HR : Hid (loB l N M = true) := Lib.hid (by rw [HE.out, List.any_eq_true]; exact ⟨k, List.mem_range.2 (by rw [HL.out]; exact hlt), decide_eq_true (by rw [HN1.out]; exact ⟨e1, e2⟩)⟩)
            clear e1 e2
            go_wp2_with fail
            go_ret
            exact ⟨ret_bool HR.out.symm, HB7.out⟩
          · have t2 : decide ((n1 : Int) ≤ 1024) = false := by simp; omega
            have HA : Hid (∀ j, j < k + 1 → ¬ (M < (gS l j).2.length ∧ (gS l j).2.length ≤ 1024)) := Lib.hid (fun j hj => by
              by_cases e : j = k
              · rw [e, HN1.out]; exact fun h => e2 h.2
              · exact hall.out j (by omega))
            clear e1 e2
            go_wp2_with fail
            go_roundw
            case rel => exact ⟨k + 1, by omega, by go_num, HA, HB7⟩
            case measure => simp [intOf]; omega
        · have t1 : decide (M < n1) = false := by simpa using e1
          have HA : Hid (∀ j, j < k + 1 → ¬ (M < (gS l j).2.length ∧ (gS l j).2.length ≤ 1024)) := Lib.hid (fun j hj => by
            by_cases e : j = k
            · rw [e, HN1.out]; exact fun h => e1 h.1
            · exact hall.out j (by omega))
          clear e1
          go_wp2_with fail
          go_roundw
          case rel => exact ⟨k + 1, by omega, by go_num, HA, HB7⟩
          case measure => simp [intOf]; omega
      · obtain rfl : k = n := by omega
        have HR : Hid (loB l N M = false) := Lib.hid (by rw [HE.out, List.any_eq_false]; intro i hi; rw [List.mem_range, HL.out] at hi; simpa using hall.out i hi)
        go_wp2_with fail
        go_ret
        exact ⟨ret_bool HR.out.symm, hb.out⟩
end Go.Proofs.Ytakedococfklgaa
