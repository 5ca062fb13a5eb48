/- Several texts in one: Rf2, Rs4, Rs5, Rs6, Rs7. -/
import Derived.Test.YtfcakjpljjnjnaaGreatDoorC32
/- Contracts of the references kinkeepref08: Valid, Row. -/
namespace Go.Proofs.YtfcakjpljjnjnaaGreatDoor
open Go.RowKit Gf

/-- The row after k columns. -/
def rpart (d i k : Nat) : List UInt8 := (List.range d).map fun j => if j < k then coef d i j else 0
theorem rpart_length (d i k : Nat) : (rpart d i k).length = d := by simp [rpart]
theorem rpart_zero (d i : Nat) : rpart d i 0 = zeros d := by
 unfold rpart zeros
 apply List.ext_getElem (by simp)
 intro j h1 h2; simp
theorem rpart_all (d i : Nat) : rpart d i d = crw d i := by
 unfold rpart crw
 apply List.map_congr_left
 intro j hj; rw [if_pos (List.mem_range.1 hj)]
theorem rpart_set (d i k : Nat) (_h : k < d) : (rpart d i k).set k (coef d i k) = rpart d i (k + 1) := by
 apply List.ext_getElem (by simp [rpart])
 intro j h1 h2
 rw [List.getElem_set]
 simp only [rpart, List.getElem_map, List.getElem_range]
 by_cases e : k = j
 ·
  subst e; simp
 ·
  rw [if_neg e]
  by_cases h3 : j < k
  ·
   rw [if_pos h3, if_pos (by omega)]
  ·
   rw [if_neg h3, if_neg (by omega)]
theorem rpart_same (d i k : Nat) (h : coef d i k = 0) : rpart d i k = rpart d i (k + 1) := by
 apply List.ext_getElem (by simp [rpart])
 intro j h1 h2
 simp only [rpart, List.getElem_map, List.getElem_range]
 by_cases h3 : j < k
 ·
  rw [if_pos h3, if_pos (by omega)]
 ·
  rw [if_neg h3]
  by_cases e : j = k
  ·
   subst e; rw [if_pos (by omega), h]
  ·
   rw [if_neg (by omega)]
theorem rinv_nat (k : Nat) (w : World) (hk : k < 256) :
  Calls Tryz.prog 120 #[.int .u8 (k : Int)] w fun e w' => e = .returned (B (inv (UInt8.ofNat k))) ∧ w = w' := by
 have h : (k : Int) = bv (UInt8.ofNat k) := by unfold bv; simp; omega
 rw [h]
 exact rinv_any _ _

def RowRet (d i : Nat) (w : World) (e : Ending) (w' : World) : Prop :=
 e = .returned (.slice (some ⟨w.heap.size, 0, none⟩) d d) ∧ Blk w' w.heap.size 5 (row (crw d i)) ∧ Below w.heap.size w w'
def RowI (d i k : Nat) (w wr : World) : Prop := Blk wr w.heap.size 5 (row (rpart d i k)) ∧ Below w.heap.size w wr

set_option maxHeartbeats 400000 in
theorem rrow_any (d i : Nat) (w : World) (hd8 : d ≤ 8) (hi : i < 16) :
  Calls Tryz.prog 82 #[.int .i64 (d : Int), .int .i64 (i : Int)] w (RowRet d i w) := by
 have hmk := make_bytes d (by omega)
 have hi16 : (i : Int) < 16 := by omega
 go_enter Tryz.func82, Tryz.ntmps82
 go_wp2_with fail
 go_loopw [6] (fun c wr => ∃ k : Nat, k ≤ d ∧ c = .int .i64 (k : Int) ∧ Hid (RowI d i k w wr)) (fun c _ => d - (intOf c).toNat)
 case atStart =>
  refine ⟨0, by omega, rfl, Lib.hid ⟨?_, (Below.refl _ _).alloc (Nat.le_refl _) _⟩⟩
  rw [rpart_zero]
  exact Blk.new w _ _
 case round =>
  obtain ⟨k, hk, rfl, hI⟩ := hrel
  by_cases hlt : k < d
  ·
   have c1 : wr.cell? ⟨w.heap.size, k, none⟩ = some (B (gB (rpart d i k) k)) := by
    rw [hI.out.1.cell]; exact row_get _ _ (by rw [rpart_length]; exact hlt)
   have f1 := hI.out.1.frozen k
   clear hmk
   have HSET : Hid (∀ x, x = coef d i k → RowI d i (k + 1) w (wr.setCell ⟨w.heap.size, k, none⟩ (B x))) := Lib.hid (fun x hx => by
    have := hI.out.1.set_ k (B x)
    rw [row_set, hx, rpart_set _ _ _ hlt] at this
    rw [hx]
    exact ⟨this, hI.out.2.setCell (Nat.le_refl _) _⟩)
   by_cases hdi : d ≤ i
   ·
    have q1 : decide ((i : Int) < (d : Int)) = false := by simp; omega
    have q2 : decide ((d : Int) ≤ (i : Int)) = true := by simp; omega
    have hx := i64_xor_nat i k (by omega) (by omega)
    have hx16 := xor_lt16 hi (show k < 16 by omega)
    have hw8 := wrap8_nat (i ^^^ k) (by omega)
    obtain ⟨x, hxe⟩ : ∃ x, x = inv (UInt8.ofNat (i ^^^ k)) := ⟨_, rfl⟩
    have HR := Lib.hid (HSET.out x (by rw [hxe, coef, if_pos hdi]))
    have HC : Hid (Calls Tryz.prog 120 #[.int .u8 ((i ^^^ k : Nat) : Int)] wr fun e w' => e = .returned (B x) ∧ wr = w') := Lib.hid (by rw [hxe]; exact rinv_nat (i ^^^ k) wr (by omega))
    clear hxe
    clear HSET hI
    go_wp2_with (go_at_call 120; refine HC.out.mono ?_; rintro e w' ⟨rfl, rfl⟩)
    clear hx hx16 hw8
    go_roundw
    case rel => exact ⟨k + 1, by omega, by go_num, HR⟩
    case measure => simp [intOf]; omega
   ·
    have q1 : decide ((i : Int) < (d : Int)) = true := by simp; omega
    have q2 : decide ((d : Int) ≤ (i : Int)) = false := by simp; omega
    by_cases hik : i = k
    ·
     have q3 : ((i : Int) == (k : Int)) = true := by simp [hik]
     have HR := Lib.hid (HSET.out 1 (by rw [coef, if_neg hdi, if_pos hik]))
     clear HSET hI hik
     go_wp2_with fail
     go_roundw
     case rel => exact ⟨k + 1, by omega, by go_num, HR⟩
     case measure => simp [intOf]; omega
    ·
     have q3 : ((i : Int) == (k : Int)) = false := by simp; omega
     have HR : Hid (RowI d i (k + 1) w wr) := Lib.hid ⟨by rw [← rpart_same d i k (by rw [coef, if_neg hdi, if_neg hik])]; exact hI.out.1, hI.out.2⟩
     clear HSET hI
     go_wp2_with fail
     go_roundw
     case rel => exact ⟨k + 1, by omega, by go_num, HR⟩
     case measure => simp [intOf]; omega
  ·
   obtain rfl : k = d := by omega
   have HR : Hid (Blk wr w.heap.size 5 (row (crw k i))) := Lib.hid (by rw [← rpart_all]; exact hI.out.1)
   go_wp2_with fail
   go_ret
   exact ⟨rfl, HR.out, hI.out.2⟩
end Go.Proofs.YtfcakjpljjnjnaaGreatDoor
/- Contracts of package reedsolomon: oneLength, Encode; slices.Clone of rows. -/
namespace Go.Proofs.YtfcakjpljjnjnaaGreatDoor
open Go.RowKit Gf

attribute [local go_sem] Gf.xor_bits Gf.and_bits Gf.or_bits Gf.ne_zero_iff Gf.eq_zero_iff Gf.eq_one_iff Gf.beq_bytes Gf.bne_bytes Gf.bv_toNat

/-- All rows have one length from 1 to 65536. -/
def okRow (m : List (List UInt8)) (i : Nat) : Bool := decide ((gR m i).length ≠ 0 ∧ (gR m i).length ≤ 65536 ∧ (gR m i).length = (gR m 0).length)
def e8oneB (m : List (List UInt8)) : Bool := (List.range m.length).all (okRow m)
theorem oneB_true {m : List (List UInt8)} (h : ∀ i, i < m.length → okRow m i = true) : e8oneB m = true := by
 unfold e8oneB; rw [List.all_eq_true]; intro i hi; exact h i (List.mem_range.1 hi)
theorem oneB_false {m : List (List UInt8)} {i : Nat} (hi : i < m.length) (h : okRow m i = false) : e8oneB m = false := by
 unfold e8oneB; rw [List.all_eq_false]; exact ⟨i, List.mem_range.2 hi, by simp [h]⟩
theorem oneB_spec {m : List (List UInt8)} (h : e8oneB m = true) (i : Nat) (hi : i < m.length) : (gR m i).length ≠ 0 ∧ (gR m i).length ≤ 65536 ∧ (gR m i).length = (gR m 0).length := by
 unfold e8oneB at h; rw [List.all_eq_true] at h; have := h i (List.mem_range.2 hi); simpa [okRow] using this

set_option maxHeartbeats 1000000 in
theorem oneLength_any (A : Option Addr) (n c : Nat) (m : List (List UInt8)) (w : World) (h : MS w A n c m) :
  Calls Tryz.prog 91 #[.slice A n c] w fun e w' => e = .returned (.bool (e8oneB m)) ∧ w = w' := by
 have hn := h.len_le
 have HL := Lib.hid h.1
 go_enter Tryz.func91, Tryz.ntmps91
 go_wp2
 go_loop [7] (fun i => ∃ k : Nat, k ≤ n ∧ i = .int .i64 (k : Int) ∧ Hid (∀ j, j < k → okRow m j = true)) (fun i => n - (intOf i).toNat)
 case atStart => exact ⟨0, by omega, rfl, Lib.hid (fun j hj => absurd hj (by omega))⟩
 case round =>
  obtain ⟨k, hk, rfl, hall⟩ := hrel
  by_cases hlt : k < n
  ·
   obtain ⟨g, o, A1, n1, c1, rfl, hc, hr1⟩ := h.at_ (Below.refl _ _) hlt
   obtain ⟨g', o', A2, n2, c2, e2, hc2, hr2⟩ := h.at_ (Below.refl _ _) (show 0 < n by omega)
   injection e2 with e2
   injection e2 with e3 e4
   subst e3 e4
   rw [Nat.add_zero] at hc2
   have HN1 := Lib.hid hr1.1
   have HN2 := Lib.hid hr2.1
   have hln := hr1.len_le
   have hln2 := hr2.len_le
   clear hr1 hr2 h
   by_cases e1 : n1 = 0
   ·
    have q1 : ((n1 : Int) == 0) = true := by simp [e1]
    have HF : Hid (e8oneB m = false) := Lib.hid (oneB_false (by rw [HL.out]; exact hlt) (by unfold okRow; rw [HN1.out, HN2.out]; simp [e1]))
    have E1 := Lib.hid e1
    clear e1
    go_wp2
    go_ret
    exact ⟨e8ret_bool (by rw [HF.out]), rfl⟩
   ·
    have q1 : ((n1 : Int) == 0) = false := by simp; omega
    by_cases e2 : 65536 < n1
    ·
     have q2 : decide ((65536 : Int) < (n1 : Int)) = true := by simp; omega
     have HF : Hid (e8oneB m = false) := Lib.hid (oneB_false (by rw [HL.out]; exact hlt) (by unfold okRow; rw [HN1.out, HN2.out]; simp; omega))
     go_wp2
     go_ret
     exact ⟨e8ret_bool (by rw [HF.out]), rfl⟩
    ·
     have q2 : decide ((65536 : Int) < (n1 : Int)) = false := by simp; omega
     by_cases e3 : n1 = n2
     ·
      have q3 : ((n1 : Int) != (n2 : Int)) = false := by simp [e3]
      have HA : Hid (∀ j, j < k + 1 → okRow m j = true) := Lib.hid (fun j hj => by
       by_cases e : j = k
       ·
        subst e; unfold okRow; rw [HN1.out, HN2.out]; simp; omega
       ·
        exact hall.out j (by omega))
      have E3 := Lib.hid e3
      clear e3 hall
      go_wp2
      go_round
      case rel => exact ⟨k + 1, by omega, by go_num, HA⟩
      case measure => simp [intOf]; omega
     ·
      have q3 : ((n1 : Int) != (n2 : Int)) = true := by simp; omega
      have HF : Hid (e8oneB m = false) := Lib.hid (oneB_false (by rw [HL.out]; exact hlt) (by unfold okRow; rw [HN1.out, HN2.out]; simp; omega))
      go_wp2
      go_ret
      exact ⟨e8ret_bool (by rw [HF.out]), rfl⟩
  ·
   have HT : Hid (e8oneB m = true) := Lib.hid (oneB_true (fun i hi => hall.out i (by rw [HL.out] at hi; omega)))
   clear h
   go_wp2
   go_ret
   exact ⟨e8ret_bool (by rw [HT.out]), rfl⟩

/-- A row of slices that the call owns: the slices ps read as the rows of m, none empty, and none lies in the row's own block. -/
def OwnM (w : World) (base : Nat) (v : Value) (n : Nat) (m : List (List UInt8)) : Prop :=
 m.length = n ∧ ∃ ps, w.ownsRow base 39 1 v n ps ∧ ∀ j, j < n → ∃ A k c, ps[j]? = some (.slice A k c) ∧ BS w A k c (gR m j) ∧ 0 < k ∧ ∀ g o, A = some ⟨g, o, none⟩ → v.ownBlock ≠ some g
theorem OwnM.ms {w : World} {base : Nat} {v : Value} {n : Nat} {m : List (List UInt8)} (h : OwnM w base v n m) (hn : n * 24 ≤ lim) : ∃ A c, v = .slice A n c ∧ MS w A n c m := by
 obtain ⟨hm, ps, hown, hps⟩ := h
 rcases hown.2 with ⟨rfl, rfl⟩ | ⟨g, cap, cur, rfl, _, hh, hnc, _, hsz, htk⟩
 ·
  exact ⟨none, 0, rfl, hm, Nat.le_refl _, hn, fun k hk => absurd hk (by omega)⟩
 ·
  refine ⟨some ⟨g, 0, none⟩, cap, rfl, hm, hnc, hn, fun k hk => ?_⟩
  obtain ⟨A, k', c, h1, h2, _⟩ := hps k hk
  exact ⟨g, 0, A, k', c, rfl, by rw [Nat.zero_add, hown.cellAt k (by omega)]; exact h1, h2⟩
theorem OwnM.kept {w w' : World} {base : Nat} {v : Value} {n : Nat} {m : List (List UInt8)} (h : OwnM w base v n m) (hb : Below w.heap.size w w') : OwnM w' base v n m := by
 obtain ⟨hm, ps, hown, hps⟩ := h
 refine ⟨hm, ps, Kp.own (S := fun _ => False) (Kp.of_below hb) hown (fun _ _ => id), fun j hj => ?_⟩
 obtain ⟨A, k, c, h1, h2, h3⟩ := hps j hj
 exact ⟨A, k, c, h1, h2.kept hb, h3⟩
theorem gR_append_left {m m' : List (List UInt8)} {j : Nat} (h : j < m.length) : gR (m ++ m') j = gR m j := by
 unfold gR; rw [List.getD_eq_getElem?_getD, List.getD_eq_getElem?_getD, List.getElem?_append_left h]
theorem gR_append_self {m : List (List UInt8)} {l : List UInt8} : gR (m ++ [l]) m.length = l := by
 unfold gR; rw [List.getD_eq_getElem?_getD, List.getElem?_append_right (Nat.le_refl _), Nat.sub_self]; rfl
/-- One row more: what an append of the slice '.slice A k c' leaves. -/
theorem OwnM.push {w w' : World} {base : Nat} {v v' : Value} {n : Nat} {m : List (List UInt8)} (_hbase : base ≤ w.heap.size) (hm : m.length = n) {ps : List Value}
  (hps : ∀ j, j < n → ∃ A k c, ps[j]? = some (.slice A k c) ∧ BS w A k c (gR m j) ∧ 0 < k ∧ ∀ g o, A = some ⟨g, o, none⟩ → v.ownBlock ≠ some g) (hpl : ps.length = n)
  {A : Option Addr} {k c : Nat} {l : List UInt8} (hl : BS w A k c l) (hk : 0 < k) (hA : ∀ g o, A = some ⟨g, o, none⟩ → v.ownBlock ≠ some g)
  (hp : AppPost base 39 v n 1 (ps ++ [.slice A k c]) v' w w') : OwnM w' base v' (n + 1) (m ++ [l]) := by
 have hK : Kp (fun b => v.ownBlock = some b) w w' := (Kp.refl _ _).grown hp.2.1 (fun _ e => .inl e)
 have hrow : ∀ (A : Option Addr) (k c : Nat) (l : List UInt8), BS w A k c l → 0 < k → (∀ g o, A = some ⟨g, o, none⟩ → v.ownBlock ≠ some g) → BS w' A k c l ∧ ∀ g o, A = some ⟨g, o, none⟩ → v'.ownBlock ≠ some g := by
  intro A k c l hb h0 hA
  refine ⟨⟨hb.1, hb.2.1, hb.2.2.1, fun i hi => ?_⟩, fun g o e e' => ?_⟩
  ·
   obtain ⟨g, o, e, hc⟩ := hb.2.2.2 i hi
   exact ⟨g, o, e, hK.cell hc (hA g o e)⟩
  ·
   rcases hp.2.2 with h1 | h1
   ·
    exact hA g o e (h1.symm.trans e')
   ·
    obtain ⟨g', o', e2, hc⟩ := hb.2.2.2 0 h0
    rw [e] at e2
    injection e2 with e2
    injection e2 with e2
    have := cell_lt hc
    rw [h1] at e'
    injection e' with e'
    simp only at this
    omega
 refine ⟨by simp [hm], ps ++ [.slice A k c], hp.1, fun j hj => ?_⟩
 by_cases hjn : j < n
 ·
  obtain ⟨A1, k1, c1, h1, h2, h3, h4⟩ := hps j hjn
  obtain ⟨r1, r2⟩ := hrow A1 k1 c1 _ h2 h3 h4
  refine ⟨A1, k1, c1, by rw [List.getElem?_append_left (by omega)]; exact h1, ?_, h3, r2⟩
  rw [gR_append_left (by omega)]; exact r1
 ·
  obtain rfl : j = n := by omega
  obtain ⟨r1, r2⟩ := hrow A k c l hl hk hA
  refine ⟨A, k, c, by rw [List.getElem?_append_right (by omega), hpl, Nat.sub_self]; rfl, ?_, hk, r2⟩
  rw [← hm, gR_append_self]; exact r1

/-- The slices of a slice of byte slices, as a list. -/
theorem MS.list {w : World} {A : Option Addr} {n c : Nat} {m : List (List UInt8)} (h : MS w A n c m) : ∃ ps : List Value, ps.length = n ∧ Cells w A n (fun k => ps.getD k undef) ∧ ∀ j, j < n → ∃ A' n' c', ps[j]? = some (.slice A' n' c') ∧ BS w A' n' c' (gR m j) := by
 have key : ∀ k, k ≤ n → ∃ ps : List Value, ps.length = k ∧ ∀ j, j < k → ∃ g o A' n' c', A = some ⟨g, o, none⟩ ∧ ps[j]? = some (.slice A' n' c') ∧ w.cell? ⟨g, o + j, none⟩ = some (.slice A' n' c') ∧ BS w A' n' c' (gR m j) := by
  intro k
  induction k with
  | zero => intro _; exact ⟨[], rfl, fun j hj => absurd hj (by omega)⟩
  | succ k ih =>
   intro hk
   obtain ⟨ps, h1, h2⟩ := ih (by omega)
   obtain ⟨g, o, A', n', c', e, hc, hb⟩ := h.2.2.2 k (by omega)
   refine ⟨ps ++ [.slice A' n' c'], by simp [h1], fun j hj => ?_⟩
   by_cases hjk : j < k
   ·
    obtain ⟨g1, o1, A1, n1, c1, e1, p1, q1, b1⟩ := h2 j hjk
    exact ⟨g1, o1, A1, n1, c1, e1, by rw [List.getElem?_append_left (by omega)]; exact p1, q1, b1⟩
   ·
    obtain rfl : j = k := by omega
    exact ⟨g, o, A', n', c', e, by rw [List.getElem?_append_right (by omega), h1, Nat.sub_self]; rfl, hc, hb⟩
 obtain ⟨ps, h1, h2⟩ := key n (Nat.le_refl _)
 refine ⟨ps, h1, fun k hk => ?_, fun j hj => ?_⟩
 ·
  obtain ⟨g, o, A', n', c', e, p, q, _⟩ := h2 k hk
  exact ⟨g, o, e, by rw [q]; simp [List.getD, p]⟩
 ·
  obtain ⟨g, o, A', n', c', e, p, q, b⟩ := h2 j hj
  exact ⟨A', n', c', p, b⟩

def CloneRet (n : Nat) (m : List (List UInt8)) (w : World) (e : Ending) (w' : World) : Prop := ∃ v, e = .returned v ∧ OwnM w' w.heap.size v n m ∧ Below w.heap.size w w'

set_option maxHeartbeats 1000000 in
theorem clone_rows (A : Option Addr) (n c : Nat) (m : List (List UInt8)) (w : World) (h : MS w A n c m) (hn : 0 < n) (hne : ∀ j, j < n → (gR m j).length ≠ 0) :
  Calls Tryz.prog 77 #[.slice A n c] w (CloneRet n m w) := by
 have hl := h.len_le
 obtain ⟨g, o, _, _, _, rfl, _⟩ := h.at_ (Below.refl _ _) hn
 obtain ⟨ps, p1, p2, p3⟩ := h.list
 have heq := fun (W : World) (a : Option Addr) (n c n' c' : Nat) => Lib.run_eql_slice_nil (P := Tryz.prog) W 45 39 a n c n' c' Tryz.underlying45
 have HO0 : Hid ((w.alloc (.cells #[] 39)).ownsRow w.heap.size 39 1 (.slice (some ⟨w.heap.size, 0, none⟩) 0 0) 0 []) :=
  Lib.hid (World.ownsRow_lit w #[] 0 (Nat.le_refl _) (by simp [maxLen]) rfl)
 have hbA : Below w.heap.size w (w.alloc (.cells #[] 39)) := (Below.refl _ _).alloc (Nat.le_refl _) _
 have HC := Lib.hid (p2.kept hbA)
 have H1 : Hid (∀ u ∈ ps, u.oneCell' = true) := Lib.hid (fun u hu => by
  obtain ⟨j, hj⟩ := List.getElem?_of_mem hu
  have hjn : j < n := by rw [← p1]; exact (List.getElem?_eq_some_iff.1 hj).1
  obtain ⟨A', n', c', q, _⟩ := p3 j hjn
  rw [q] at hj
  injection hj with hj
  subst hj
  rfl)
 have P1 := Lib.hid p1
 have P3 := Lib.hid p3
 have HBA := Lib.hid hbA
 clear p1 p2 p3 hbA
 go_enter Tryz.func77, Tryz.ntmps77
 go_wp2_with (first
  | (at_builtin; refine wpList_app _ rfl (.tmp 5) (.tmp 6) 45 rfl w.heap.size 39 (.slice none 0 0) 24 Tryz.underlying45 infoBytes rfl (.slice (some ⟨w.heap.size, 0, none⟩) 0 0) 0 [] rfl HO0.out (some ⟨g, o, none⟩) n c ps rfl P1.out HC.out H1.out (by omega) (by omega) (by simp) ?_; intro v1 w1 hp1))
 have HR : Hid (OwnM w1 w.heap.size v1 n m ∧ Below w.heap.size w w1) := by
  have hb1 : Below w.heap.size w w1 := HBA.out.grown hp1.2.1 HBA.out.size (by simp [Value.ownBlock])
  have ho := hp1.1
  rw [Nat.zero_add, List.nil_append] at ho
  refine Lib.hid ⟨⟨h.1, ps, ho, fun j hj => ?_⟩, hb1⟩
  obtain ⟨A', n', c', q, hb⟩ := P3.out j hj
  have hn' : 0 < n' := by rw [← hb.1]; have := hne j hj; omega
  refine ⟨A', n', c', q, hb.kept hb1, hn', fun g' o' e e' => ?_⟩
  obtain ⟨g2, o2, e2, hc⟩ := hb.2.2.2 0 hn'
  rw [e] at e2
  injection e2 with e2
  injection e2 with e2
  have h1 := cell_lt hc
  have h2 := ho.lt g' e'
  simp only at h1
  omega
 clear hp1
 go_ret
 exact ⟨_, rfl, HR.out⟩
end Go.Proofs.YtfcakjpljjnjnaaGreatDoor
/- Contracts of package reedsolomon: Encode. -/
namespace Go.Proofs.YtfcakjpljjnjnaaGreatDoor
open Go.RowKit Gf

attribute [local go_sem] Gf.xor_bits Gf.and_bits Gf.or_bits Gf.ne_zero_iff Gf.eq_zero_iff Gf.eq_one_iff Gf.beq_bytes Gf.bne_bytes Gf.bv_toNat

theorem Blk.new1 (w : World) (o : Obj) (t : TypeId) (cs : Array Value) : Blk ((w.alloc o).alloc (.cells cs t)) (w.heap.size + 1) t cs := by
 have h := Blk.new (w.alloc o) t cs
 rw [World.size_alloc] at h
 exact h
def lenOf : Value → Nat | .slice _ n _ => n | _ => 0

/-- Blocks, filled up with zeros to k of them. -/
def fillB (blocks : List (List UInt8)) (L k : Nat) : List (List UInt8) := blocks ++ List.replicate (k - blocks.length) (zeros L)
theorem fillB_start (blocks : List (List UInt8)) (L : Nat) : fillB blocks L blocks.length = blocks := by simp [fillB]
theorem fillB_length (blocks : List (List UInt8)) (L k : Nat) (h : blocks.length ≤ k) : (fillB blocks L k).length = k := by simp [fillB]; omega
theorem fillB_succ (blocks : List (List UInt8)) (L k : Nat) (h : blocks.length ≤ k) : fillB blocks L (k + 1) = fillB blocks L k ++ [zeros L] := by
 have e : k + 1 - blocks.length = (k - blocks.length) + 1 := by omega
 unfold fillB; rw [e, List.replicate_succ', List.append_assoc]
theorem fillB_rect (blocks : List (List UInt8)) (L k : Nat) (hr : Rect blocks L) (h : blocks.length ≤ k) : Rect (fillB blocks L k) L := by
 intro i hi
 rw [fillB_length _ _ _ h] at hi
 by_cases hb : i < blocks.length
 ·
  rw [show gR (fillB blocks L k) i = gR blocks i from gR_append_left hb]; exact hr i hb
 ·
  have hl : i < (fillB blocks L k).length := by rw [fillB_length _ _ _ h]; exact hi
  rw [gR_eq hl]
  simp only [fillB]
  rw [List.getElem_append_right (by omega), List.getElem_replicate, zeros_length]

/-- All pieces of blocks. -/
def encM (d t : Nat) (blocks : List (List UInt8)) (L : Nat) : List (List UInt8) := cmat (ofM d (List.range t)) (fillB blocks L d) L t 0

theorem ints_snoc (k : Nat) : ints (List.range (k + 1)) = ints (List.range k) ++ [(k : Int)] := by simp [ints, List.range_succ]
theorem IS.of_own {w : World} {base : Nat} {v : Value} {n : Nat} {z : List Int} (h : w.ownsRow base 3 1 v n (z.map (Value.int .i64))) (hn : n * 8 ≤ lim) : ∃ A c, v = .slice A n c ∧ IS w A n c z := by
 have hl : z.length = n := by have := h.1; simpa using this
 rcases h.2 with ⟨rfl, rfl⟩ | ⟨g, cap, cur, rfl, _, hh, hnc, _, hsz, htk⟩
 ·
  exact ⟨none, 0, rfl, hl, Nat.le_refl _, hn, fun k hk => absurd hk (by omega)⟩
 ·
  refine ⟨some ⟨g, 0, none⟩, cap, rfl, hl, hnc, hn, fun k hk => ⟨g, 0, rfl, ?_⟩⟩
  have hkl : k < z.length := by omega
  show _ = some (Value.int .i64 (gI z k))
  rw [Nat.zero_add, h.cellAt k (by omega), gI_eq hkl]
  simp [List.getElem?_eq_getElem hkl]

def EncI (blocks : List (List UInt8)) (L k : Nat) (v : Value) (w wr : World) : Prop := OwnM wr w.heap.size v k (fillB blocks L k) ∧ Below w.heap.size w wr ∧ (∃ A c, v = .slice A k c)

set_option maxHeartbeats 4000000 in
theorem encode_ok (d t n c : Nat) (A : Option Addr) (blocks : List (List UInt8)) (L : Nat) (w : World) (hd : 1 ≤ d) (hd8 : d ≤ 8) (hdt : d ≤ t) (ht : t ≤ 16) (h : MS w A n c blocks) (hn : 0 < n) (hnd : n ≤ d) (hone : e8oneB blocks = true) (hL : (gR blocks 0).length = L) :
  Calls Tryz.prog 59 #[.int .i64 (d : Int), .int .i64 (t : Int), .slice A n c] w (Rets0 (NewM 39 (encM d t blocks L)) w) := by
 have hv : vldB d t = true := vld_iff.2 (by omega)
 have q1 : ((n : Int) == 0) = false := by simp; omega
 have q2 : decide ((d : Int) < (n : Int)) = false := by simp; omega
 have HL1 := Lib.hid h.1
 have hrect : Rect blocks L := fun i hi => by rw [(oneB_spec hone i hi).2.2, hL]
 have hLpos : 0 < L := by
  have := (oneB_spec hone 0 (by rw [h.1]; exact hn)).1
  omega
 have hL6 : L ≤ 65536 := by
  have := (oneB_spec hone 0 (by rw [h.1]; exact hn)).2.1
  omega
 have hmk := make_bytes L (by omega)
 have HV := Lib.hid hv
 have HONE := Lib.hid hone
 have HLL := Lib.hid hL
 clear hv hone hL
 go_enter Tryz.func59, Tryz.ntmps59
 go_wp2_with fail
 refine (rsvalid_any _ _ _).mono ?_
 rintro e w' ⟨rfl, rfl⟩
 rw [HV.out]
 go_wp2_with fail
 refine (oneLength_any A n c blocks _ h).mono ?_
 rintro e w' ⟨rfl, rfl⟩
 rw [HONE.out]
 go_wp2_with fail
 refine (clone_rows A n c blocks w h hn (fun j hj => (oneB_spec HONE.out j (by rw [HL1.out]; exact hj)).1)).mono ?_
 rintro e w1 ⟨v1, rfl, ho1, hb1⟩
 obtain ⟨A1, c1, rfl, _⟩ := ho1.ms (by unfold lim; omega)
 have HI : Hid (EncI blocks L n (.slice A1 n c1) w w1) := Lib.hid ⟨by rw [← HL1.out, fillB_start]; rw [← HL1.out] at ho1; exact ho1, hb1, A1, c1, rfl⟩
 clear ho1 hb1
 go_wp2_with fail
 go_loopw [8] (fun v wr => ∃ k : Nat, n ≤ k ∧ k ≤ d ∧ EncI blocks L k v w wr) (fun v _ => d - lenOf v)
 case atStart => exact ⟨n, Nat.le_refl _, hnd, HI.out⟩
 case round =>
  obtain ⟨k, hk1, hk, ho, hb, Av, cv, rfl⟩ := hrel
  by_cases hlt : k < d
  ·
   obtain ⟨g, o, A2, n2, c2, rfl, hca0, hra⟩ := h.at_ (Below.refl _ _) hn
   obtain rfl : n2 = L := by rw [← hra.1, HLL.out]
   rw [Nat.add_zero] at hca0
   have hca := cell_kept hb hca0
   obtain ⟨hm, ps, hown, hps⟩ := ho
   have hbM : Below wr.heap.size wr (wr.alloc (.cells (row (zeros n2)) 5)) := (Below.refl _ _).alloc (Nat.le_refl _) _
   have hbM2 : Below wr.heap.size wr ((wr.alloc (.cells (row (zeros n2)) 5)).alloc (.cells #[.slice (some ⟨wr.heap.size, 0, none⟩) n2 n2] 39)) := hbM.alloc (by simp) _
   have HOW := Lib.hid (Kp.own (S := fun _ => False) (Kp.of_below hbM2) hown (fun _ _ => id))
   have HBM2 := Lib.hid hbM2
   have HB := Lib.hid hb
   have HM := Lib.hid hm
   have HPS := Lib.hid hps
   have HOWN := Lib.hid hown
   clear hb hm hps hown hra hca0 hbM hbM2 HI
   go_wp2_with (first
    | (at_builtin; refine wpList_app1 _ rfl (.tmp 37) (.tmp 43) 45 39 (.slice none 0 0) 24 Tryz.underlying45 infoBytes rfl rfl w.heap.size (.slice Av k cv) k ps rfl HOW.out (wr.heap.size + 1) 1 39 (.slice (some ⟨wr.heap.size, 0, none⟩) n2 n2) rfl (Blk.new1 wr (.cells (row (zeros n2)) 5) _ _) rfl (by omega) (by omega) (Nat.le_trans HB.out.size HBM2.out.size) ?_; intro v4 w4 hp4))
   have HR : Hid (EncI blocks n2 (k + 1) v4 w w4) := by
    have hpl : ps.length = k := by have := HOWN.out.1; simpa using this
    have hz : BS ((wr.alloc (.cells (row (zeros n2)) 5)).alloc (.cells #[.slice (some ⟨wr.heap.size, 0, none⟩) n2 n2] 39)) (some ⟨wr.heap.size, 0, none⟩) n2 n2 (zeros n2) :=
     BS.of_blk ((Blk.new wr _ _).alloc _) (zeros_length n2) (by unfold lim; omega)
    have h5 := OwnM.push (Nat.le_trans HB.out.size HBM2.out.size) HM.out (fun j hj => by
     obtain ⟨A', k', c', p1, p2, p3, p4⟩ := HPS.out j hj
     exact ⟨A', k', c', p1, p2.kept HBM2.out, p3, p4⟩) hpl hz hLpos (fun g' o' e e' => by
      injection e with e
      injection e with e
      have := HOWN.out.lt g' e'
      omega) hp4
    rw [← fillB_succ _ _ _ (by rw [HL1.out]; exact hk1)] at h5
    obtain ⟨A5, c5, e5, _⟩ := h5.ms (by unfold lim; omega)
    exact Lib.hid ⟨h5, (below_thenB HB.out HB.out.size HBM2.out).grown hp4.2.1 (Nat.le_trans HB.out.size HBM2.out.size) (fun b hb' => own_base HOWN.out b hb'), A5, c5, e5⟩
   clear hp4
   go_roundw
   case rel => exact ⟨k + 1, by omega, by omega, HR.out⟩
   case measure =>
    obtain ⟨_, _, A5, c5, rfl⟩ := HR.out
    simp [lenOf]; omega
  ·
   obtain rfl : k = d := by omega
   have HO := Lib.hid ho
   have HB := Lib.hid hb
   clear ho hb HI hmk
   have hbt : (t : Int) ≤ 16 := by omega
   go_wp2_with fail
   obtain ⟨wo, rfl⟩ : ∃ wo : World, wo = wr := ⟨_, rfl⟩
   go_loopw [9, 46] (fun v i wr => ∃ j : Nat, j ≤ t ∧ i = .int .i64 (j : Int) ∧ wr.ownsRow wo.heap.size 3 1 v j ((ints (List.range j)).map (Value.int .i64)) ∧ Below wo.heap.size wo wr) (fun _ i _ => t - (intOf i).toNat)
   case atStart => exact ⟨0, by omega, rfl, World.ownsRow_nil _ _ _ _, Below.refl _ _⟩
   case round =>
    obtain ⟨j, hj, rfl, hown, hb⟩ := hrel
    by_cases hlt2 : j < t
    ·
     have hbA : Below wr.heap.size wr (wr.alloc (.cells #[.int .i64 (j : Int)] 3)) := (Below.refl _ _).alloc (Nat.le_refl _) _
     have HOW := Lib.hid (Kp.own (S := fun _ => False) (Kp.of_below hbA) hown (fun _ _ => id))
     have HOWN := Lib.hid hown
     have HB2 := Lib.hid hb
     have HBA := Lib.hid hbA
     clear hown hb hbA
     go_wp2_with (first
      | (at_builtin; refine wpList_app1 _ rfl (.tmp 49) (.tmp 51) 52 3 (.int .i64 0) 8 Tryz.underlying52 infoInt rfl rfl wo.heap.size _ j ((ints (List.range j)).map (Value.int .i64)) rfl HOW.out wr.heap.size 1 3 (.int .i64 (j : Int)) rfl (Blk.new wr _ _) rfl (by omega) (by omega) (Nat.le_trans HB2.out.size HBA.out.size) ?_; intro v4 w4 hp4))
     have HR : Hid (w4.ownsRow wo.heap.size 3 1 v4 (j + 1) ((ints (List.range (j + 1))).map (Value.int .i64)) ∧ Below wo.heap.size wo w4) := by
      have h6 := hp4.1
      refine Lib.hid ⟨?_, (below_thenB HB2.out HB2.out.size HBA.out).grown hp4.2.1 (Nat.le_trans HB2.out.size HBA.out.size) (fun b hb' => own_base HOWN.out b hb')⟩
      rw [ints_snoc, List.map_append]
      exact h6
     clear hp4
     go_roundw
     case rel => exact ⟨j + 1, by omega, by go_num, HR.out⟩
     case measure => simp [intOf]; omega
    ·
     obtain rfl : j = t := by omega
     obtain ⟨A6, c6, rfl, hIS⟩ := IS.of_own hown (by unfold lim; omega)
     have HIS := Lib.hid hIS
     have HB2 := Lib.hid hb
     clear hown hb hIS
     go_wp2_with fail
     refine (newTable_any k _ hd8).mono ?_
     rintro e w7 ⟨rfl, htab, hb7⟩
     go_wp2_with fail
     have hzr : ∀ i, i < j → gN (List.range j) i < 16 := fun i hi => by
      rw [gN_eq (by simpa using hi)]; simp; omega
     refine (of_any wr.heap.size k A6 j c6 (List.range j) w7 htab hd8 (HIS.out.kept hb7) hzr (by omega)).mono ?_
     rintro e w8 ⟨v8, rfl, hv8⟩
     obtain ⟨g8, n8, rfl, hn8, hms8, hb8⟩ := hv8.ms (by rw [ofM_length, List.length_range]; unfold lim; omega)
     obtain rfl : n8 = j := by rw [← hn8, ofM_length, List.length_range]
     obtain ⟨A9, c9, e9, hms9⟩ := ((HO.out.kept HB2.out).kept hb7).kept hb8 |>.ms (by unfold lim; omega)
     injection e9 with e91 _ e93
     subst e91 e93
     clear hv8 hn8
     go_wp2_with fail
     refine (apply_any _ _ n8 k n8 cv (ofM k (List.range n8)) (fillB blocks L k) L w8 hms8 hms9 (ofM_rect _ _) (fillB_rect _ _ _ hrect (by rw [HL1.out]; exact hnd)) (by omega) (by omega) (by omega) (by omega) (by omega)).mono ?_
     rintro e w9 ⟨v9, rfl, g9, cs9, n9, rfl, hn9, hg9, hr9, hb9⟩
     have HR : Hid (NewM 39 (encM k n8 blocks L) w (.slice (some ⟨g9, 0, none⟩) n9 n9) w9) :=
      Lib.hid ⟨g9, cs9, n9, rfl, hn9, Nat.le_trans HB.out.size (Nat.le_trans HB2.out.size (Nat.le_trans hb7.size (Nat.le_trans hb8.size hg9))), hr9, below_then (below_then (below_then (below_then HB.out HB2.out) hb7) hb8) hb9⟩
     clear hms8 hms9 hn9 hr9 hb9 hb8 hb7 htab
     go_wp2_with fail
     go_ret2
     exact ⟨_, rfl, HR.out⟩
end Go.Proofs.YtfcakjpljjnjnaaGreatDoor
/- Contracts of package reedsolomon: Encode's refusals, checkIndices, checkGiven. -/
namespace Go.Proofs.YtfcakjpljjnjnaaGreatDoor
open Go.RowKit Gf

attribute [local go_sem] Gf.xor_bits Gf.and_bits Gf.or_bits Gf.ne_zero_iff Gf.eq_zero_iff Gf.eq_one_iff Gf.beq_bytes Gf.bne_bytes Gf.bv_toNat

/-- Number k is an index below t and none of the earlier ones. -/
def idxOk (t : Int) (z : List Int) (k : Nat) : Bool := decide (0 ≤ gI z k) && decide (gI z k < t) && !((List.range k).any fun j => gI z j == gI z k)
def idxB (t : Int) (z : List Int) : Bool := (List.range z.length).all (idxOk t z)
theorem idxB_true {t : Int} {z : List Int} (h : ∀ i, i < z.length → idxOk t z i = true) : idxB t z = true := by
 unfold idxB; rw [List.all_eq_true]; intro i hi; exact h i (List.mem_range.1 hi)
theorem idxB_false {t : Int} {z : List Int} {i : Nat} (hi : i < z.length) (h : idxOk t z i = false) : idxB t z = false := by
 unfold idxB; rw [List.all_eq_false]; exact ⟨i, List.mem_range.2 hi, by simp [h]⟩
/-- Is i among the first k? -/
def seenB (z : List Int) (k i : Nat) : Bool := (List.range k).any fun j => gI z j == (i : Int)
theorem seenB_succ (z : List Int) (k i : Nat) : seenB z (k + 1) i = (seenB z k i || (gI z k == (i : Int))) := by
 unfold seenB; rw [List.range_succ, List.any_append]; simp
def seenA (z : List Int) (k : Nat) : Array Value := ((List.range 16).map fun i => Value.bool (seenB z k i)).toArray
theorem seenA_zero (z : List Int) : seenA z 0 = #[.bool false, .bool false, .bool false, .bool false, .bool false, .bool false, .bool false, .bool false, .bool false, .bool false, .bool false, .bool false, .bool false, .bool false, .bool false, .bool false] := by
 show ((List.range 16).map fun _ => Value.bool false).toArray = _
 kernel_rfl
theorem seenA_get (z : List Int) (k i : Nat) (h : i < 16) : (seenA z k)[i]? = some (.bool (seenB z k i)) := by
 simp [seenA, h]
theorem seenA_set (z : List Int) (k i : Nat) (_h : i < 16) (hz : gI z k = (i : Int)) : (seenA z k).setIfInBounds i (.bool true) = seenA z (k + 1) := by
 unfold seenA
 rw [List.setIfInBounds_toArray]
 congr 1
 apply List.ext_getElem (by simp)
 intro j h1 h2
 simp only [List.getElem_set, List.getElem_map, List.getElem_range]
 by_cases e : i = j
 ·
  subst e
  rw [if_pos rfl, seenB_succ, hz]
  simp
 ·
  rw [if_neg e, seenB_succ, hz]
  have : ((i : Int) == (j : Int)) = false := by simp; omega
  rw [this, Bool.or_false]

def ChkRet (r : Int) (w : World) (e : Ending) (w' : World) : Prop := e = .returned (.int .i64 r) ∧ Below w.heap.size w w'
def ixE (d t : Int) (z : List Int) : Int := if vldB d t && idxB t z then 0 else 1

set_option maxHeartbeats 4000000 in
theorem checkIndices_any (d t : Int) (A : Option Addr) (n c : Nat) (z : List Int) (w : World) (h : IS w A n c z) :
  Calls Tryz.prog 144 #[.int .i64 d, .int .i64 t, .slice A n c] w (ChkRet (ixE d t z) w) := by
 have hn := h.len_le
 have HL := Lib.hid h.1
 cases hv : vldB d t with
 | false =>
  have HR : Hid (ixE d t z = 1) := Lib.hid (by unfold ixE; rw [hv]; rfl)
  go_enter Tryz.func144, Tryz.ntmps144
  go_wp2_with (go_at_call 30; refine (rsvalid_any _ _ _).mono ?_; rintro e w' ⟨rfl, rfl⟩; rw [hv])
  go_ret
  exact ⟨by rw [HR.out]; rfl, Below.refl _ _⟩
 | true =>
  have ht := vld_iff.1 hv
  have HRf : Hid (idxB t z = false → ixE d t z = 1) := Lib.hid (by intro h; unfold ixE; rw [hv, h]; rfl)
  have HRt : Hid (idxB t z = true → ixE d t z = 0) := Lib.hid (by intro h; unfold ixE; rw [hv, h]; rfl)
  go_enter Tryz.func144, Tryz.ntmps144
  go_wp2_with (go_at_call 30; refine (rsvalid_any _ _ _).mono ?_; rintro e w' ⟨rfl, rfl⟩; rw [hv])
  clear hv
  go_loopw [16] (fun i wr => ∃ k : Nat, k ≤ n ∧ i = .int .i64 (k : Int) ∧ Hid (∀ j, j < k → idxOk t z j = true) ∧ Blk wr w.heap.size 208 (seenA z k) ∧ Below w.heap.size w wr) (fun i _ => n - (intOf i).toNat)
  case atStart =>
   refine ⟨0, by omega, rfl, Lib.hid (fun j hj => absurd hj (by omega)), ?_, (Below.refl _ _).alloc (Nat.le_refl _) _⟩
   rw [seenA_zero]
   exact Blk.new w _ _
  case round =>
   obtain ⟨k, hk, rfl, hall, hb1, hb⟩ := hrel
   by_cases hlt : k < n
   ·
    obtain ⟨g, o, rfl, hc⟩ := h.at_ hb hlt
    obtain ⟨x, hx⟩ : ∃ x, x = gI z k := ⟨_, rfl⟩
    rw [← hx] at hc
    have HX := Lib.hid hx
    clear hx h
    by_cases h1 : x < 0
    ·
     have q1 : decide (x < 0) = true := by simpa using h1
     have HF : Hid (ixE d t z = 1) := Lib.hid (HRf.out (idxB_false (i := k) (by rw [HL.out]; exact hlt) (by unfold idxOk; rw [← HX.out]; simp; omega)))
     have HB := Lib.hid hb
     clear hb hb1 hall HRf HRt
     go_wp2
     go_ret
     exact ⟨by rw [HF.out]; rfl, HB.out⟩
    ·
     have q1 : decide (x < 0) = false := by simpa using h1
     by_cases h2 : t ≤ x
     ·
      have q2 : decide (t ≤ x) = true := by simpa using h2
      have HF : Hid (ixE d t z = 1) := Lib.hid (HRf.out (idxB_false (i := k) (by rw [HL.out]; exact hlt) (by unfold idxOk; rw [← HX.out]; simp; omega)))
      have HB := Lib.hid hb
      clear hb hb1 hall HRf HRt
      go_wp2
      go_ret
      exact ⟨by rw [HF.out]; rfl, HB.out⟩
     ·
      have q2 : decide (t ≤ x) = false := by simpa using h2
      obtain ⟨y, rfl⟩ : ∃ y : Nat, x = (y : Int) := ⟨x.toNat, by omega⟩
      have hy : y < 16 := by omega
      have hy' : (y : Int) < 16 := by omega
      have hs : wr.cell? ⟨w.heap.size, y, none⟩ = some (.bool (seenB z k y)) := by rw [hb1.cell, seenA_get _ _ _ hy]
      have hf := hb1.frozen y
      cases hsb : seenB z k y with
      | true =>
       rw [hsb] at hs
       have HF : Hid (ixE d t z = 1) := Lib.hid (HRf.out (idxB_false (i := k) (by rw [HL.out]; exact hlt) (by
        have hsb' : ((List.range k).any fun j => gI z j == (y : Int)) = true := hsb
        unfold idxOk; rw [← HX.out, hsb']; simp)))
       have HB := Lib.hid hb
       clear hb hb1 hall HRf HRt hsb
       go_wp2
       go_ret
       exact ⟨by rw [HF.out]; rfl, HB.out⟩
      | false =>
       rw [hsb] at hs
       have HA : Hid (∀ j, j < k + 1 → idxOk t z j = true) := Lib.hid (fun j hj => by
        by_cases e : j = k
        ·
         subst e
         have hsb' : ((List.range j).any fun i => gI z i == (y : Int)) = false := hsb
         unfold idxOk; rw [← HX.out, hsb']; simp; omega
        ·
         exact hall.out j (by omega))
       have HB : Hid (Blk (wr.setCell ⟨w.heap.size, y, none⟩ (.bool true)) w.heap.size 208 (seenA z (k + 1)) ∧ Below w.heap.size w (wr.setCell ⟨w.heap.size, y, none⟩ (.bool true))) := by
        have h3 := hb1.set_ y (.bool true)
        rw [seenA_set z k y hy HX.out.symm] at h3
        exact Lib.hid ⟨h3, hb.setCell (p := ⟨w.heap.size, y, none⟩) (Nat.le_refl _) _⟩
       clear hb hb1 hall HRf HRt hsb
       go_wp2
       go_roundw
       case rel => exact ⟨k + 1, by omega, by go_num, HA, HB.out⟩
       case measure => simp [intOf]; omega
   ·
    have HT : Hid (ixE d t z = 0) := Lib.hid (HRt.out (idxB_true (fun i hi => hall.out i (by rw [HL.out] at hi; omega))))
    have HB := Lib.hid hb
    clear h hb hb1 hall HRf HRt
    go_wp2
    go_ret
    exact ⟨by rw [HT.out]; rfl, HB.out⟩

/-- The error of given pieces. -/
def gvE (d t : Int) (z : List Int) (m : List (List UInt8)) : Int :=
 if ixE d t z = 0 then (if z.length = m.length ∧ e8oneB m = true then (if (z.length : Int) < d then 10 else 0) else 1) else 1

set_option maxHeartbeats 4000000 in
theorem checkGiven_any (d t : Int) (A A' : Option Addr) (n c n' c' : Nat) (z : List Int) (m : List (List UInt8)) (w : World) (h : IS w A n c z) (h' : MS w A' n' c' m) :
  Calls Tryz.prog 117 #[.int .i64 d, .int .i64 t, .slice A n c, .slice A' n' c'] w (ChkRet (gvE d t z m) w) := by
 have hn := h.len_le
 have hn' := h'.len_le
 have HL := Lib.hid h.1
 have HL' := Lib.hid h'.1
 go_enter Tryz.func117, Tryz.ntmps117
 go_wp2_with fail
 refine (checkIndices_any d t A n c z w h).mono ?_
 rintro e w1 ⟨rfl, hb⟩
 have h'' := h'.kept hb
 have HB := Lib.hid hb
 clear hb h h'
 by_cases hx : ixE d t z = 0
 ·
  rw [hx]
  by_cases hnn : n = n'
  ·
   have q1 : ((n : Int) != (n' : Int)) = false := by simp [hnn]
   have HN := Lib.hid hnn
   clear hnn
   go_wp2_with fail
   refine (oneLength_any A' n' c' m _ h'').mono ?_
   rintro e w2 ⟨rfl, rfl⟩
   cases ho : e8oneB m with
   | false =>
    have HR : Hid (gvE d t z m = 1) := Lib.hid (by unfold gvE; rw [if_pos hx, ho]; simp)
    clear h''
    go_wp2_with fail
    go_ret
    exact ⟨by rw [HR.out]; rfl, HB.out⟩
   | true =>
    by_cases hs : (n : Int) < d
    ·
     have q3 : decide ((n : Int) < d) = true := by simpa using hs
     have HR : Hid (gvE d t z m = 10) := Lib.hid (by unfold gvE; rw [if_pos hx, if_pos ⟨by rw [HL.out, HL'.out, HN.out], ho⟩, HL.out, if_pos hs])
     clear h''
     go_wp2_with fail
     go_ret
     exact ⟨by rw [HR.out]; rfl, HB.out⟩
    ·
     have q3 : decide ((n : Int) < d) = false := by simpa using hs
     have HR : Hid (gvE d t z m = 0) := Lib.hid (by unfold gvE; rw [if_pos hx, if_pos ⟨by rw [HL.out, HL'.out, HN.out], ho⟩, HL.out, if_neg hs])
     clear h''
     go_wp2_with fail
     go_ret
     exact ⟨by rw [HR.out]; rfl, HB.out⟩
  ·
   have q1 : ((n : Int) != (n' : Int)) = true := by simp; omega
   have HR : Hid (gvE d t z m = 1) := Lib.hid (by unfold gvE; rw [if_pos hx, if_neg (by rw [HL.out, HL'.out]; exact fun e => hnn e.1)])
   clear h''
   go_wp2_with fail
   go_ret
   exact ⟨by rw [HR.out]; rfl, HB.out⟩
 ·
  have hx1 : ixE d t z = 1 := by unfold ixE at hx ⊢; split at hx <;> simp_all
  have HR : Hid (gvE d t z m = 1) := Lib.hid (by unfold gvE; rw [if_neg hx])
  rw [hx1]
  clear h'' hx hx1
  go_wp2_with fail
  go_ret
  exact ⟨by rw [HR.out]; rfl, HB.out⟩
end Go.Proofs.YtfcakjpljjnjnaaGreatDoor
/- Contracts of package reedsolomon: Encode's refusals, predict, Repair, Coefficients. -/
namespace Go.Proofs.YtfcakjpljjnjnaaGreatDoor
open Go.RowKit Gf

attribute [local go_sem] Gf.xor_bits Gf.and_bits Gf.or_bits Gf.ne_zero_iff Gf.eq_zero_iff Gf.eq_one_iff Gf.beq_bytes Gf.bne_bytes Gf.bv_toNat

theorem e8gR_take {m : List (List UInt8)} {k j : Nat} (h : j < k) : gR (m.take k) j = gR m j := by
 unfold gR; rw [List.getD_eq_getElem?_getD, List.getD_eq_getElem?_getD, List.getElem?_take_of_lt h]
theorem MS.take {w : World} {A : Option Addr} {n c k : Nat} {m : List (List UInt8)} (h : MS w A n c m) (hk : k ≤ n) : MS w A k c (m.take k) :=
 ⟨by rw [List.length_take, h.1]; omega, Nat.le_trans hk h.2.1, by have := h.2.2.1; omega, fun j hj => by
  obtain ⟨g, o, A', n', c', e, hc, hb⟩ := h.2.2.2 j (by omega)
  exact ⟨g, o, A', n', c', e, hc, by rw [e8gR_take hj]; exact hb⟩⟩
theorem Rect.take {m : List (List UInt8)} {L : Nat} (h : Rect m L) (k : Nat) : Rect (m.take k) L := fun i hi => by
 rw [List.length_take] at hi
 rw [e8gR_take (by omega)]
 exact h i (by omega)

end Go.Proofs.YtfcakjpljjnjnaaGreatDoor
