/- kinkeeplaw10.some: two lists of shares, chosen by a test of the index. -/
import Derived.Test.YtakedococfklgaaB3
import Derived.Test.YtakedococfklgaaAw1m
namespace Go.Proofs.Ytakedococfklgaa
open Go.RowKit Gf

/-- A row of shares that the call owns; their bytes lie in the older world w0. -/
def OwnP (w0 w : World) (v : Value) (n : Nat) (l : List (Int × List UInt8)) : Prop :=
  l.length = n ∧ ∃ q : List (Int × Value), q.length = n ∧ w.ownsRow w0.heap.size 33 2 v n (shC q) ∧ ∀ j, j < n → ∃ A k c, q[j]? = some ((gS l j).1, .slice A k c) ∧ BS w0 A k c (gS l j).2
theorem OwnP.nil (w0 w : World) : OwnP w0 w (.slice none 0 0) 0 [] := ⟨rfl, [], rfl, World.ownsRow_nil _ _ _ _, fun j hj => absurd hj (by omega)⟩
theorem OwnP.kp {S : Nat → Prop} {w0 w w1 : World} {v : Value} {n : Nat} {l : List (Int × List UInt8)} (h : OwnP w0 w v n l) (hk : Kp S w w1) (hn : ∀ g, v.ownBlock = some g → ¬ S g) : OwnP w0 w1 v n l := by
  obtain ⟨h1, q, h2, h3, h4⟩ := h
  exact ⟨h1, q, h2, own2 hk h3 hn, h4⟩
theorem OwnP.base {w0 w : World} {v : Value} {n : Nat} {l : List (Int × List UInt8)} (h : OwnP w0 w v n l) : ∀ k, v.ownBlock = some k → w0.heap.size ≤ k ∧ k < w.heap.size := fun k hk => by
  obtain ⟨_, q, _, hown, _⟩ := h
  exact hown.lt k hk
theorem OwnP.push {w0 w w' : World} {v v' : Value} {n : Nat} {l : List (Int × List UInt8)} {q : List (Int × Value)} (hm : l.length = n) (hq : q.length = n)
    (hps : ∀ j, j < n → ∃ A k c, q[j]? = some ((gS l j).1, .slice A k c) ∧ BS w0 A k c (gS l j).2)
    {A : Option Addr} {k c : Nat} {x : Int} {d : List UInt8} (hl : BS w0 A k c d)
    (hp : AppS w0.heap.size 33 v n (shC q ++ [.int .i64 x, .slice A k c]) v' w w') : OwnP w0 w' v' (n + 1) (l ++ [(x, d)]) := by
  refine ⟨by simp [hm], q ++ [(x, .slice A k c)], by simp [hq], by rw [shC_append]; exact hp.1, fun j hj => ?_⟩
  by_cases hjn : j < n
  · obtain ⟨A1, k1, c1, h1, h2⟩ := hps j hjn
    exact ⟨A1, k1, c1, by rw [List.getElem?_append_left (by omega), gS_append_left (by omega)]; exact h1, by rw [gS_append_left (by omega)]; exact h2⟩
  · obtain rfl : j = n := by omega
    refine ⟨A, k, c, ?_, ?_⟩
    · rw [List.getElem?_append_right (by omega), hq, Nat.sub_self, ← hm, gS_append_self]; rfl
    · rw [← hm, gS_append_self]; exact hl
theorem OwnP.own {w0 w : World} {v : Value} {n : Nat} {l : List (Int × List UInt8)} (h : OwnP w0 w v n l) (hb : Below w0.heap.size w0 w) : OwnS w w0.heap.size v n l := by
  obtain ⟨h1, q, h2, h3, h4⟩ := h
  refine ⟨h1, q, h2, h3, fun j hj => ?_⟩
  obtain ⟨A, k, c, e1, e2⟩ := h4 j hj
  refine ⟨A, k, c, e1, e2.kept hb, fun h0 a ea e' => ?_⟩
  obtain ⟨g, o, e3, hc⟩ := e2.2.2.2 0 h0
  rw [ea] at e3
  injection e3 with e3
  have h5 := cell_lt hc
  have h6 := (h3.lt a.block e').1
  rw [e3] at h6
  simp only at h5 h6
  omega

/-- Two rows at once. -/
def Two (w0 w : World) (v v' : Value) (n n' : Nat) (l l' : List (Int × List UInt8)) : Prop :=
  OwnP w0 w v n l ∧ OwnP w0 w v' n' l' ∧ ∀ g, v.ownBlock = some g → v'.ownBlock ≠ some g
/-- The shares whose index passes. -/
def pkK (l : List (Int × List UInt8)) (P : Nat → Bool) : Nat → List (Int × List UInt8)
  | 0 => []
  | k + 1 => if P k then pkK l P k ++ [gS l k] else pkK l P k
theorem pkK_le (l : List (Int × List UInt8)) (P : Nat → Bool) : ∀ k, (pkK l P k).length ≤ k
  | 0 => Nat.le_refl _
  | k + 1 => by
    have := pkK_le l P k
    rw [pkK]; split
    · rw [List.length_append]; simp; omega
    · omega
/-- The test of the set. -/
def stB (x : Int) (i : Nat) : Bool := bits .and .u16 (x / 2 ^ (i % 16)) 1 == 1

set_option maxRecDepth 100000 in
set_option maxHeartbeats 1000000 in
theorem some_any (A : Option Addr) (n c : Nat) (l : List (Int × List UInt8)) (x : Int) (w : World) (h : SS w A n c l) (h64 : n ≤ 64) (_hx0 : 0 ≤ x) (_hx1 : x < 65536) :
    Calls Try.prog 31 #[.slice A n c, .int .u16 x] w fun e w' => ∃ v v', e = .returned (.tuple #[v, v']) ∧ OwnS w' w.heap.size v (pkK l (stB x) n).length (pkK l (stB x) n) ∧ OwnS w' w.heap.size v' (pkK l (fun i => !stB x i) n).length (pkK l (fun i => !stB x i) n) ∧ Below w.heap.size w w' := by
  have hn := h.len_le
  have H := Lib.hid h
  have H64 := Lib.hid h64
  clear h h64
  go_enter Try.func31, Try.ntmps31
  go_wp2_with fail
  go_loopw [6, 7, 12] (fun v v' i wr => ∃ k : Nat, k ≤ n ∧ i = .int .i64 (k : Int) ∧ Hid (Two w wr v v' (pkK l (stB x) k).length (pkK l (fun i => !stB x i) k).length (pkK l (stB x) k) (pkK l (fun i => !stB x i) k)) ∧ Hid (Below w.heap.size w wr)) (fun _ _ i _ => n - (intOf i).toNat)
  case atStart => exact ⟨0, by omega, rfl, Lib.hid ⟨OwnP.nil _ _, OwnP.nil _ _, fun g e => by simp [Value.ownBlock] at e⟩, Lib.hid (Below.refl _ _)⟩
  case round =>
    obtain ⟨k, hk, rfl, ht, hb⟩ := hrel
    by_cases hlt : k < n
    · obtain ⟨g1, o1, A1, n1, c1, rfl, q1, q2, q3⟩ := H.out.at_ hb.out hlt
      obtain ⟨y, hy⟩ : ∃ y, y = (gS l k).1 := ⟨_, rfl⟩
      rw [← hy] at q1
      have HY := Lib.hid hy
      clear hy
      have HQ3 : Hid (BS w A1 n1 c1 (gS l k).2) := Lib.hid (by
        obtain ⟨g2, o2, A2, n2, c2, e1, r1, r2, r3⟩ := H.out.2.2.2 k hlt
        injection e1 with e1
        injection e1 with e11 e12
        subst e11 e12
        have := cell_kept hb.out r2
        rw [q2] at this
        injection this with this
        injection this with f1 f2 f3
        subst f1 f2 f3
        exact r3)
      clear q3
      obtain ⟨t1, t2, t3⟩ := ht.out
      obtain ⟨W7, hW7⟩ : ∃ W, W = (wr.alloc (.cells #[.int .i64 y, .slice A1 n1 c1] 33)).alloc (.cells #[.int .i64 y, .slice A1 n1 c1] 33) := ⟨_, rfl⟩
      have hb7 : Below wr.heap.size wr W7 := by rw [hW7]; exact below_then (kb1 _ _) (kb1 _ _)
      have k7 : Blk W7 (wr.heap.size + 1) 33 #[.int .i64 y, .slice A1 n1 c1] := by rw [hW7]; exact blk_at (by simp) _ _
      have s7 : W7.heap.size = wr.heap.size + 1 + 1 := by rw [hW7]; simp
      have HB7 := Lib.hid (below_then hb.out hb7)
      subst hW7
      clear ht hb
      cases hst : stB x k with
      | true =>
        have hst' : (bits .and .u16 (x / 2 ^ (k % 16)) 1 == 1) = true := hst
        have HE1 : Hid (pkK l (stB x) (k + 1) = pkK l (stB x) k ++ [gS l k]) := Lib.hid (by rw [pkK, hst]; rfl)
        have HE2 : Hid (pkK l (fun i => !stB x i) (k + 1) = pkK l (fun i => !stB x i) k) := Lib.hid (by rw [pkK, hst]; rfl)
        clear hst
        obtain ⟨hm7, q, hq, hown7, hps7⟩ := t1.kp (S := fun _ => False) (Kp.of_below hb7) (fun _ _ => id)
        have HOT := Lib.hid (t2.kp (S := fun _ => False) (Kp.of_below hb7) (fun _ _ => id))
        have HBO := Lib.hid (t2.base)
        have HBA := Lib.hid (t1.base)
        have HW7 := Lib.hid hown7
        have HPS7 := Lib.hid hps7
        have HM7 := Lib.hid hm7
        have HQ7 := Lib.hid hq
        have HNE := Lib.hid t3
        have HK7 := Lib.hid k7
        have HS7 := Lib.hid s7
        have HK32 : Hid (((pkK l (stB x) k).length + 1) * 32 ≤ 140737488355328) := Lib.hid (by have := H64.out; have := pkK_le l (stB x) k; omega)
        clear hown7 hps7 hm7 hq t1 t2 t3 hb7 k7 s7
        go_wp2_with (first
          | (at_builtin; refine wpList_appS _ rfl (.tmp 23) (.tmp 25) rfl w.heap.size u6 _ (shC q) rfl HW7.out (wr.heap.size + 1) 1 33 (.int .i64 y) (.slice A1 n1 c1) rfl HK7.out rfl rfl HK32.out HB7.out.size ?_; intro v8 w8 hp8))
        have hK8 : Kp (fun b => u6.ownBlock = some b) _ w8 := (Kp.refl _ _).grown hp8.2.1 (fun _ e => .inl e)
        have p8 := OwnP.push HM7.out HQ7.out HPS7.out HQ3.out hp8
        have o8 := HOT.out.kp hK8 (fun g e1 e2 => HNE.out g e2 e1)
        have HB8 : Hid (Below w.heap.size w w8) := Lib.hid (HB7.out.grown hp8.2.1 HB7.out.size (fun b hb' => (HBA.out b hb').1))
        have HT8 : Hid (Two w w8 v8 u7 (pkK l (stB x) (k + 1)).length (pkK l (fun i => !stB x i) (k + 1)).length (pkK l (stB x) (k + 1)) (pkK l (fun i => !stB x i) (k + 1))) := Lib.hid (by
          rw [HE1.out, HE2.out]
          rw [HY.out] at p8
          rw [show ∀ L : List (Int × List UInt8), (L ++ [gS l k]).length = L.length + 1 from fun L => by simp]
          refine ⟨p8, o8, fun g e1 e2 => ?_⟩
          rcases hp8.2.2 with h9 | h9
          · exact HNE.out g (h9.symm.trans e1) e2
          · rw [h9] at e1; injection e1 with e1; have h10 := (HBO.out g e2).2; have h11 := HS7.out; omega)
        clear hp8 hK8 p8 o8
        go_wp2_with fail
        go_roundw
        case rel => exact ⟨k + 1, by omega, by go_num, HT8, HB8⟩
        case measure => simp [intOf]; omega
      | false =>
        have hst' : (bits .and .u16 (x / 2 ^ (k % 16)) 1 == 1) = false := hst
        have HE1 : Hid (pkK l (stB x) (k + 1) = pkK l (stB x) k) := Lib.hid (by rw [pkK, hst]; rfl)
        have HE2 : Hid (pkK l (fun i => !stB x i) (k + 1) = pkK l (fun i => !stB x i) k ++ [gS l k]) := Lib.hid (by rw [pkK, hst]; rfl)
        clear hst
        obtain ⟨hm7, q, hq, hown7, hps7⟩ := t2.kp (S := fun _ => False) (Kp.of_below hb7) (fun _ _ => id)
        have HOT := Lib.hid (t1.kp (S := fun _ => False) (Kp.of_below hb7) (fun _ _ => id))
        have HBO := Lib.hid (t1.base)
        have HBA := Lib.hid (t2.base)
        have HW7 := Lib.hid hown7
        have HPS7 := Lib.hid hps7
        have HM7 := Lib.hid hm7
        have HQ7 := Lib.hid hq
        have HNE := Lib.hid t3
        have HK7 := Lib.hid k7
        have HS7 := Lib.hid s7
        have HK32 : Hid (((pkK l (fun i => !stB x i) k).length + 1) * 32 ≤ 140737488355328) := Lib.hid (by have := H64.out; have := pkK_le l (fun i => !stB x i) k; omega)
        clear hown7 hps7 hm7 hq t1 t2 t3 hb7 k7 s7
        go_wp2_with (first
          | (at_builtin; refine wpList_appS _ rfl (.tmp 27) (.tmp 29) rfl w.heap.size u7 _ (shC q) rfl HW7.out (wr.heap.size + 1) 1 33 (.int .i64 y) (.slice A1 n1 c1) rfl HK7.out rfl rfl HK32.out HB7.out.size ?_; intro v8 w8 hp8))
        have hK8 : Kp (fun b => u7.ownBlock = some b) _ w8 := (Kp.refl _ _).grown hp8.2.1 (fun _ e => .inl e)
        have p8 := OwnP.push HM7.out HQ7.out HPS7.out HQ3.out hp8
        have o8 := HOT.out.kp hK8 (fun g e1 e2 => HNE.out g e1 e2)
        have HB8 : Hid (Below w.heap.size w w8) := Lib.hid (HB7.out.grown hp8.2.1 HB7.out.size (fun b hb' => (HBA.out b hb').1))
        have HT8 : Hid (Two w w8 u6 v8 (pkK l (stB x) (k + 1)).length (pkK l (fun i => !stB x i) (k + 1)).length (pkK l (stB x) (k + 1)) (pkK l (fun i => !stB x i) (k + 1))) := Lib.hid (by
          rw [HE1.out, HE2.out]
          rw [HY.out] at p8
          rw [show ∀ L : List (Int × List UInt8), (L ++ [gS l k]).length = L.length + 1 from fun L => by simp]
          refine ⟨o8, p8, fun g e1 e2 => ?_⟩
          rcases hp8.2.2 with h9 | h9
          · exact HNE.out g e1 (h9.symm.trans e2)
          · rw [h9] at e2; injection e2 with e2; have h10 := (HBO.out g e1).2; have h11 := HS7.out; omega)
        clear hp8 hK8 p8 o8
        go_wp2_with fail
        go_roundw
        case rel => exact ⟨k + 1, by omega, by go_num, HT8, HB8⟩
        case measure => simp [intOf]; omega
    · obtain rfl : k = n := by omega
      have HT9 := Lib.hid (ht.out.1.own hb.out)
      have HT8 := Lib.hid (ht.out.2.1.own hb.out)
      go_wp2_with fail
      go_ret2
      exact ⟨_, _, rfl, HT9.out, HT8.out, hb.out⟩
end Go.Proofs.Ytakedococfklgaa
