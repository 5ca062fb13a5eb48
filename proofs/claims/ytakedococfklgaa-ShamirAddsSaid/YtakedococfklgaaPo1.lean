/- Contracts of gf256.Div and of package polynomial: Degree, Trim, addTo, Eval, timesRoot. -/
import Derived.Test.YtakedococfklgaaGfM
import Derived.Test.YtakedococfklgaaPo0
import Derived.Test.YtakedococfklgaaApp
import Derived.Laws.CopyOwn
namespace Go.Proofs.Ytakedococfklgaa
open Go.RowKit Gf

attribute [local go_sem] Gf.xor_bits Gf.and_bits Gf.or_bits Gf.ne_zero_iff Gf.eq_zero_iff Gf.eq_one_iff Gf.beq_bytes Gf.bne_bytes Gf.bv_toNat

theorem ret_int {k : IntKind} {a b : Int} (h : a = b) : Ending.returned (.int k a) = .returned (.int k b) := by rw [h]
theorem quiet_left {P : Program} {f : FuncId} {args : Array Value} {w : World} {n : Nat} {v : Value}
    (h : Calls P f args (w.drewN n) fun e w' => e = .returned v ∧ w.drewN n = w') : Calls P f args (w.drewN n) fun e w'' => e = .returned v ∧ ∃ m, w'' = w.drewN m :=
  h.mono fun _ _ ⟨he, hm⟩ => ⟨he, n, hm.symm⟩
theorem own_one (w : World) (b : UInt8) : (w.alloc (.cells #[B b] 5)).ownsRow w.heap.size 5 1 (.slice (some ⟨w.heap.size, 0, none⟩) 1 1) 1 ([b].map B) :=
  ⟨rfl, .inr ⟨w.heap.size, 1, #[B b], rfl, Nat.le_refl _, heap_alloc_new w _, Nat.le_refl _, by decide, rfl, rfl⟩⟩
/-- A slice's block is one of these. -/
def AtB (A : Option Addr) (S : Nat → Prop) : Prop := ∀ a, A = some a → S a.block
/-- A slice of bytes in memory of its own, nothing old has turned. -/
def GvB (l : List UInt8) (w : World) (v : Value) (w' : World) : Prop := ∃ A n c, v = .slice A n c ∧ BS w' A n c l ∧ AtB A (w.heap.size ≤ ·) ∧ Below w.heap.size w w'
theorem GvB.nil (w : World) : GvB [] w (.slice none 0 0) w := ⟨none, 0, 0, rfl, BS.nil, (fun _ h => by cases h), Below.refl _ _⟩
theorem NewB.gv {l : List UInt8} {w w' : World} {v : Value} (h : NewB 5 l w v w') (hl : l.length ≤ lim) : GvB l w v w' := by
  obtain ⟨g, n, rfl, hn, hg, hb, hk⟩ := h
  exact ⟨_, _, _, rfl, BS.of_blk hb hn (by omega), (fun a e => by cases e; exact hg), hk⟩

/-- A block whose first cells are these bytes. -/
def OB (w : World) (g : Nat) (t : TypeId) (z : Nat) (l : List UInt8) : Prop := ∃ cs, Blk w g t cs ∧ cs.size = z ∧ cs.toList.take l.length = l.map B ∧ l.length ≤ z
section
variable {w w' : World} {g z : Nat} {t : TypeId} {l : List UInt8}
theorem OB.of_blk (h : Blk w g t (row l)) : OB w g t l.length l := ⟨_, h, row_size l, by rw [List.take_of_length_le (by simp [row])]; simp [row], Nat.le_refl _⟩
theorem OB.lt (h : OB w g t z l) : g < w.heap.size := let ⟨_, h1, _⟩ := h; h1.lt
theorem OB.frozen (h : OB w g t z l) (i : Nat) : w.frozen? ⟨g, i, none⟩ = false := let ⟨_, h1, _⟩ := h; h1.frozen i
theorem OB.cell (h : OB w g t z l) {k : Nat} (hk : k < l.length) : w.cell? ⟨g, k, none⟩ = some (B (gB l k)) := by
  obtain ⟨cs, h1, h2, h3, h4⟩ := h
  rw [h1.cell]
  have e : (cs.toList.take l.length)[k]? = (l.map B)[k]? := by rw [h3]
  rw [List.getElem?_take, if_pos hk] at e
  rw [gB_eq hk]
  simpa [List.getElem?_eq_getElem hk] using e
theorem OB.set_ (h : OB w g t z l) (k : Nat) (b : UInt8) : OB (w.setCell ⟨g, k, none⟩ (B b)) g t z (l.set k b) := by
  obtain ⟨cs, h1, h2, h3, h4⟩ := h
  refine ⟨_, h1.set_ k (B b), by simp [h2], ?_, by simpa using h4⟩
  rw [List.length_set, Array.toList_setIfInBounds, List.map_set, ← h3, List.take_set]
theorem OB.far (h : OB w g t z l) {p : Addr} (hp : g ≠ p.block) (u : Value) : OB (w.setCell p u) g t z l := let ⟨cs, h1, h2⟩ := h; ⟨cs, h1.far hp u, h2⟩
theorem OB.kept (h : OB w g t z l) (hb : Below w.heap.size w w') : OB w' g t z l := let ⟨cs, h1, h2⟩ := h; ⟨cs, h1.kept hb, h2⟩
theorem OB.drewN (h : OB w g t z l) (n : Nat) : OB (w.drewN n) g t z l := h
theorem OB.bs (h : OB w g t z l) {o n c : Nat} (ho : o + n = l.length) (hc : n ≤ c) (hn : n ≤ lim) : BS w (some ⟨g, o, none⟩) n c (l.drop o) :=
  ⟨by rw [List.length_drop]; omega, hc, hn, fun k hk => ⟨g, o, rfl, by
    show _ = some (B (gB (l.drop o) k))
    rw [gB_drop, h.cell (by omega)]⟩⟩
theorem OB.bs0 (h : OB w g t z l) {c : Nat} (hc : l.length ≤ c) (hn : l.length ≤ lim) : BS w (some ⟨g, 0, none⟩) l.length c l := by
  have := h.bs (o := 0) (n := l.length) (by omega) hc hn
  simpa using this
end
theorem OB.of_own {w : World} {base : Nat} {t : TypeId} {v : Value} {n : Nat} {l : List UInt8} (h : w.ownsRow base t 1 v n (l.map B)) (h0 : 0 < n) : ∃ g cap, v = .slice (some ⟨g, 0, none⟩) n cap ∧ base ≤ g ∧ OB w g t cap l ∧ l.length = n ∧ n ≤ cap := by
  have hl : l.length = n := by have := h.1; simpa using this
  rcases h.2 with ⟨_, rfl⟩ | ⟨g, cap, cur, rfl, hb, hh, hnc, _, hsz, htk⟩
  · omega
  · exact ⟨g, cap, rfl, hb, ⟨cur, hh, by omega, by rw [hl]; simpa using htk, by omega⟩, hl, hnc⟩

set_option maxHeartbeats 400000 in
theorem div_any (a b : UInt8) (w : World) : Calls Try.prog 72 #[B a, B b] w fun e w' => e = .returned (.tuple #[B (Py.dv a b), .int .i64 (Py.dvE b)]) ∧ w = w' := by
  by_cases h : b = 0
  · subst h
    have HD : Hid (Py.dv a 0 = 0) := Lib.hid rfl
    go_enter Try.func72, Try.ntmps72
    go_wp2_with (go_at_call 101; refine (inv_zero _).mono ?_; rintro e w' ⟨rfl, rfl⟩)
    go_ret2
    exact ⟨by rw [HD.out]; rfl, rfl⟩
  · have hb : (b == 0) = false := by simpa using h
    have HD : Hid (Py.dv a b = mul a (inv b)) := Lib.hid (by rw [Py.dv, if_neg h])
    have HE : Hid (Py.dvE b = 0) := Lib.hid (by rw [Py.dvE, if_neg h])
    clear h
    go_enter Try.func72, Try.ntmps72
    go_wp2_with (first
      | (go_at_call 101; refine (inv_any _ hb _).mono ?_; rintro e w' ⟨rfl, rfl⟩)
      | (go_at_call 76; refine (mul_any _ _ _).mono ?_; rintro e w' ⟨rfl, rfl⟩))
    go_ret2
    exact ⟨by rw [HD.out, HE.out]; rfl, rfl⟩

set_option maxHeartbeats 400000 in
theorem degree_any (A : Option Addr) (n c : Nat) (l : List UInt8) (w : World) (h : BS w A n c l) :
    Calls Try.prog 86 #[.slice A n c] w fun e w' => e = .returned (.int .i64 ((Py.tl l : Int) - 1)) ∧ w = w' := by
  have hn := h.len_le
  have HL := Lib.hid h.1
  have H := Lib.hid h
  clear h
  go_enter Try.func86, Try.ntmps86
  go_wp2
  go_loop [3] (fun d => ∃ (z : Int) (k : Nat), d = .int .i64 z ∧ -1 ≤ z ∧ z < n ∧ Hid (z + 1 = k) ∧ Hid (Py.tlen l k = Py.tl l)) (fun d => (intOf d + 1).toNat)
  case atStart => exact ⟨(n : Int) - 1, n, rfl, by omega, by omega, Lib.hid (by omega), Lib.hid (by rw [Py.tl, HL.out])⟩
  case round =>
    obtain ⟨z, k, rfl, hz1, hz2, hk, ht⟩ := hrel
    by_cases h0 : z < 0
    · have q : decide (0 ≤ z) = false := by simp; omega
      have HR : Hid (z = (Py.tl l : Int) - 1) := Lib.hid (by
        have h1 := hk.out
        have h2 := ht.out
        have : k = 0 := by omega
        subst this
        rw [← h2, Py.tlen]; omega)
      clear hk ht
      go_wp2
      go_ret
      exact ⟨ret_int HR.out, rfl⟩
    · obtain ⟨j, rfl⟩ : ∃ j : Nat, z = (j : Int) := ⟨z.toNat, by omega⟩
      have hj : j < n := by omega
      obtain ⟨g, o, rfl, hc⟩ := H.out.at_ (Below.refl _ _) hj
      have HK : Hid (k = j + 1) := Lib.hid (by have := hk.out; omega)
      clear hk
      cases hb : (gB l j == 0) with
      | true =>
        have HT : Hid (Py.tlen l j = Py.tl l) := Lib.hid (by
          have := ht.out
          rw [HK.out, Py.tlen, if_pos (by simpa using hb)] at this
          exact this)
        clear ht
        go_wp2
        go_round
        case rel => exact ⟨(j : Int) - 1, j, rfl, by omega, by omega, Lib.hid (by omega), HT⟩
        case measure => simp [intOf]
      | false =>
        have HR : Hid ((j : Int) = (Py.tl l : Int) - 1) := Lib.hid (by
          have := ht.out
          rw [HK.out, Py.tlen, if_neg (by simpa using hb)] at this
          omega)
        clear ht
        go_wp2
        go_ret
        exact ⟨ret_int HR.out, rfl⟩

theorem copy_src {w : World} {A : Option Addr} {n c : Nat} {l l' : List UInt8} (h : BS w A n c l) (hl : l'.length ≤ n) (hg : ∀ k, k < l'.length → gB l' k = gB l k) (h0 : 0 < (List.map B l').length) :
    ∃ ad, A = some ad ∧ ∀ j v, (List.map B l')[j]? = some v → w.cell? (ad.add j) = some v := by
  obtain ⟨g, o, rfl, _⟩ := h.2.2.2 0 (by rw [List.length_map] at h0; omega)
  refine ⟨_, rfl, fun j v hj => ?_⟩
  have hjl : j < l'.length := by
    rcases Nat.lt_or_ge j l'.length with h1 | h1
    · exact h1
    · rw [List.getElem?_eq_none (by simpa using h1)] at hj; cases hj
  obtain ⟨g', o', e', hc⟩ := h.at_ (Below.refl _ _) (show j < n by omega)
  cases Option.some.inj e'
  have ea : (⟨g, o, none⟩ : Addr).add j = ⟨g, o + j, none⟩ := by
    unfold Addr.add; split
    · rename_i hj0; subst hj0; simp
    · rfl
  rw [ea, hc]
  rw [List.getElem?_map, List.getElem?_eq_getElem hjl] at hj
  rw [← hj, ← gB_eq hjl, hg j hjl]
  rfl
theorem splice_zeros (l : List UInt8) : splice ((zeros (Py.tl l)).map B) 0 ((Py.trim l).map B) = (Py.trim l).map B := by
  simp [splice, Py.trim_length, zeros]

set_option maxRecDepth 100000 in
set_option maxHeartbeats 400000 in
theorem trim_any (A : Option Addr) (n c : Nat) (l : List UInt8) (w : World) (h : BS w A n c l) :
    Calls Try.prog 75 #[.slice A n c] w (Rets (NewB 5 (Py.trim l)) w) := by
  have hn := h.len_le
  have hl := h.1
  have htn := Py.tl_le l
  rw [hl] at htn
  have hmk := make_bytes (Py.tl l) (by omega)
  have HL := Lib.hid hl
  have H := Lib.hid h
  clear h hl
  have HT : Hid ((Py.trim l).length = Py.tl l) := Lib.hid (Py.trim_length l)
  have HS := Lib.hid (splice_zeros l)
  obtain ⟨d, hd⟩ : ∃ d, d = Py.tl l := ⟨_, rfl⟩
  have HD := Lib.hid hd
  rw [← hd] at hmk htn
  have s1 : (d : Int) - 1 + 1 = d := by omega
  clear hd
  have HC := Lib.hid (copy_src (l' := Py.trim l) (H.out.kept ((Below.refl _ w).alloc (Nat.le_refl _) (.cells (row (zeros d)) 5))) (by rw [HT.out, ← HD.out]; exact htn) (fun k _ => Py.gB_trim l k))
  go_enter Try.func75, Try.ntmps75
  go_wp2_with (first
    | (go_at_call 86; refine (degree_any _ _ _ _ _ H.out).mono ?_; rintro e w' ⟨rfl, rfl⟩; rw [← HD.out])
    | (refine wpList_copy_splice (o := ⟨some 10, _, _, _, _, _⟩) rfl (.tmp 8) (.tmp 9) _ _ rfl 5 Try.underlying22 (by kernel_rfl) (some ⟨w.heap.size, 0, none⟩) A d d n c rfl rfl w.heap.size 0 ((zeros d).map B) 5 (Blk.new w _ _) ((Py.trim l).map B) (by rw [List.length_map, HT.out, ← HD.out]; exact (Nat.min_eq_right htn).symm) (fun h0 => ⟨rfl, HC.out h0⟩) (by simp [HT.out, ← HD.out, zeros]) (by simp [Value.oneCell']) w.heap.size w ((Below.refl _ _).alloc (Nat.le_refl _) _) (Nat.le_refl _) ?_; intro w1 hg hb; have HB := Lib.hid hb; clear hb))
  go_ret
  refine ⟨_, rfl, w.heap.size, d, rfl, by rw [HT.out, HD.out], Nat.le_refl _, ?_, HB.out⟩
  have := hg.out
  rw [HD.out, HS.out] at this
  exact this

/-- What addTo leaves. -/
def AddPost (g : Nat) (t : TypeId) (z : Nat) (l : List UInt8) (w : World) (e : Ending) (w' : World) : Prop := e = .returned (.tuple #[]) ∧ OB w' g t z l ∧ Kp (· = g) w w'

set_option maxHeartbeats 400000 in
theorem addTo_any (g o n c z : Nat) (t : TypeId) (l : List UInt8) (Aq : Option Addr) (nq cq : Nat) (q : List UInt8) (a : UInt8) (w : World) (h : OB w g t z l) (hq : BS w Aq nq cq q) (hon : o + n = l.length) (hqn : nq ≤ n) (hl : l.length ≤ lim) :
    Calls Try.prog 73 #[.slice (some ⟨g, o, none⟩) n c, .slice Aq nq cq, B a] w (AddPost g t z (Py.addAt l o q a) w) := by
  have hn : n ≤ 140737488355328 := by unfold lim at hl; omega
  have HL := Lib.hid hon
  have HLQ := Lib.hid hq.1
  have H := Lib.hid h
  have HQ := Lib.hid hq
  clear h hq hon hl
  cases ha : (a == 0) with
  | true =>
    have HA : Hid (a = 0) := Lib.hid (by simpa using ha)
    go_enter Try.func73, Try.ntmps73
    go_wp2
    refine bodyPost_ret (results_none rfl _ _ _) rfl ?_
    exact ⟨rfl, by rw [HA.out, Py.addAt_zero]; exact H.out, Kp.refl _ _⟩
  | false =>
    go_enter Try.func73, Try.ntmps73
    go_wp2_with fail
    refine (scale_any Aq nq cq q a w HQ.out).mono ?_
    rintro e w1 ⟨v, rfl, g1, n1, rfl, hn1, hg1, hblk, hb⟩
    obtain rfl : nq = n1 := by rw [← hn1, List.length_map, HLQ.out]
    have HS := Lib.hid hblk
    have H1 := Lib.hid (H.out.kept hb)
    have HB := Lib.hid hb
    have hgg : g ≠ g1 := by have := H.out.lt; omega
    clear hn1 hblk hb
    go_wp2_with fail
    go_loopw [14] (fun i wr => ∃ k : Nat, k ≤ nq ∧ i = .int .i64 (k : Int) ∧ Hid (OB wr g t z (Py.addK l o q a k)) ∧ Hid (Blk wr g1 5 (row (q.map (mul a)))) ∧ Hid (Kp (· = g) w wr)) (fun i _ => nq - (intOf i).toNat)
    case atStart => exact ⟨0, by omega, rfl, by rw [Py.addK_zero]; exact H1, HS, Lib.hid (Kp.of_below HB.out)⟩
    case round =>
      obtain ⟨k, hk, rfl, h1, h2, h3⟩ := hrel
      by_cases hlt : k < nq
      · have c1 : wr.cell? ⟨g, o + k, none⟩ = some (B (gB l (o + k))) := by
          have h4 := HL.out
          rw [h1.out.cell (by rw [Py.addK_length]; omega), Py.addK_get _ _ _ _ _ (by omega)]
        have f1 := h1.out.frozen (o + k)
        have c2 : wr.cell? ⟨g1, k, none⟩ = some (B (mul a (gB q k))) := by
          rw [h2.out.cell, row_get _ _ (by rw [List.length_map, HLQ.out]; exact hlt)]
          rw [gB_eq (by rw [List.length_map, HLQ.out]; exact hlt), gB_eq (by rw [HLQ.out]; exact hlt), List.getElem_map]
        go_wp2
        go_roundw
        case rel =>
          refine ⟨k + 1, by omega, by go_num, Lib.hid ?_, Lib.hid (h2.out.far (fun e => hgg e.symm) _), Lib.hid (h3.out.set (.inl rfl) _)⟩
          have := h1.out.set_ (o + k) (gB l (o + k) ^^^ mul a (gB q k))
          rw [Py.addK_set _ _ _ _ _ (by have h4 := HL.out; omega)] at this
          exact this
        case measure => simp [intOf]; omega
      · have HR : Hid (OB wr g t z (Py.addAt l o q a)) := Lib.hid (by rw [← Py.addK_all _ _ _ _ k (by rw [HLQ.out]; omega)]; exact h1.out)
        go_wp2
        go_end0
        exact ⟨rfl, HR.out, h3.out⟩

set_option maxHeartbeats 400000 in
theorem eval_any (A : Option Addr) (n c : Nat) (l : List UInt8) (x : UInt8) (w : World) (h : BS w A n c l) :
    Calls Try.prog 69 #[.slice A n c, B x] w fun e w' => e = .returned (B (Py.ev l x)) ∧ ∃ m, w' = w.drewN m := by
  have hn := h.len_le
  have HL := Lib.hid h.1
  have H := Lib.hid h
  clear h
  go_enter Try.func69, Try.ntmps69
  go_wp2
  go_loopw [5, 6] (fun v d wr => ∃ (z : Int) (k : Nat) (u : UInt8), v = B u ∧ d = .int .i64 z ∧ -1 ≤ z ∧ z < n ∧ Hid (z + 1 = k) ∧ Hid (u = Py.ev (l.drop k) x) ∧ Hid (∃ m, wr = w.drewN m)) (fun _ d _ => (intOf d + 1).toNat)
  case atStart => exact ⟨(n : Int) - 1, n, 0, rfl, rfl, by omega, by omega, Lib.hid (by omega), Lib.hid (by rw [List.drop_of_length_le (by rw [HL.out]; exact Nat.le_refl _), Py.ev_nil]), Lib.hid ⟨0, rfl⟩⟩
  case round =>
    obtain ⟨z, k, u, rfl, rfl, hz1, hz2, hk, hu, hw⟩ := hrel
    by_cases h0 : z < 0
    · have q : decide (0 ≤ z) = false := by simp; omega
      have HR : Hid (u = Py.ev l x) := Lib.hid (by
        have h1 := hk.out
        have : k = 0 := by omega
        subst this
        simpa using hu.out)
      clear hk hu
      go_wp2
      go_ret
      exact ⟨ret_u8 HR.out, hw.out⟩
    · obtain ⟨j, rfl⟩ : ∃ j : Nat, z = (j : Int) := ⟨z.toNat, by omega⟩
      have hj : j < n := by omega
      obtain ⟨m, hm⟩ := hw.out
      have HW : BS wr A n c l := by rw [hm]; exact H.out.drewN m
      have HM := Lib.hid hm
      clear hm
      obtain ⟨g, o, rfl, hc⟩ := HW.at_ (Below.refl _ _) hj
      clear HW
      have HU : Hid (mul u x ^^^ gB l j = Py.ev (l.drop j) x) := Lib.hid (by
        have h1 := hk.out
        have h2 : k = j + 1 := by omega
        subst h2
        rw [Py.ev_drop l x j (by rw [HL.out]; exact hj), hu.out])
      clear hk hu hw
      go_wp2
      go_quiet ((go_at_call 76; exact quiet_left (mul_any _ _ _)))
      go_wp2
      go_roundw
      case rel => exact ⟨(j : Int) - 1, j, _, rfl, rfl, by omega, by omega, Lib.hid (by omega), HU, Lib.hid ⟨_, by rw [HM.out, World.drewN_drewN]⟩⟩
      case measure => simp [intOf]

set_option maxRecDepth 100000 in
set_option maxHeartbeats 400000 in
theorem timesRoot_any (A : Option Addr) (n c : Nat) (l : List UInt8) (r : UInt8) (w : World) (h : BS w A n c l) (hn : n ≤ 100000) :
    Calls Try.prog 74 #[.slice A n c, B r] w (Rets (GvB (Py.tr l r)) w) := by
  have H := Lib.hid h
  have HL := Lib.hid h.1
  clear h
  have hbA : Below w.heap.size w (w.alloc (.cells #[.int .u8 0] 5)) := (Below.refl _ _).alloc (Nat.le_refl _) _
  have HA := Lib.hid (H.out.kept hbA)
  have HBA := Lib.hid hbA
  clear hbA
  go_enter Try.func74, Try.ntmps74
  go_wp2_with (first
    | (at_builtin; refine wpList_appB _ rfl (.tmp 6) (.tmp 7) rfl w.heap.size _ 1 [0] rfl (own_one w 0) A n c l rfl HA.out (by omega) (by simp) ?_; intro v1 w1 hp))
  have HP := Lib.hid hp
  obtain ⟨g, cap, rfl, hg, hob, hgl, hgc⟩ := OB.of_own hp.1 (by omega)
  have hK : Kp (fun _ => False) w w1 := (Kp.of_below HBA.out).grown hp.2.1 (fun k e => .inr (own_base (own_one w 0) k e))
  have HB1 : Hid (Below w.heap.size w w1) := Lib.hid (hK.below (Nat.le_refl _) (fun _ h => h.elim))
  have HO := Lib.hid hob
  have HQ1 := Lib.hid (H.out.kept HB1.out)
  have HGL := Lib.hid hgl
  clear hp hob hK HP hgl
  go_wp2_with fail
  refine (addTo_any g 0 (1 + n) cap cap _ ([0] ++ l) A n c l r w1 HO.out HQ1.out (by rw [HGL.out]; omega) (by omega) (by rw [HGL.out]; unfold lim; omega)).mono ?_
  rintro e w2 ⟨rfl, ho2, hk2⟩
  have HR : Hid (GvB (Py.tr l r) w (.slice (some ⟨g, 0, none⟩) (1 + n) cap) w2) := Lib.hid ⟨_, _, _, rfl, by
      have h1 := ho2.bs0 (c := cap) (by rw [Py.addAt_length, HGL.out]; exact hgc) (by rw [Py.addAt_length, HGL.out]; unfold lim; omega)
      rw [Py.addAt_length, HGL.out] at h1
      exact h1, (fun a e => by cases e; exact hg), HB1.out.trans (hk2.below HB1.out.size (fun k e => by rw [e]; exact hg))⟩
  clear ho2 hk2
  go_wp2_with fail
  go_ret
  exact ⟨_, rfl, HR.out⟩
end Go.Proofs.Ytakedococfklgaa
