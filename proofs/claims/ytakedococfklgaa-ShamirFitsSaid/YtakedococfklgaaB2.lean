/- Several texts in one: Sh0, Sh1, Sh2, St, Text3, Sh3, Sh4. -/
import Derived.Test.YtakedococfklgaaB1
import Derived.Laws.BytesArg
/- Slices of shares: what they read as; contracts of shamir.validX, validThreshold, validXs, validShares, validLists. -/
namespace Go.Proofs.Ytakedococfklgaa
open Go.RowKit Gf

attribute [local go_sem] Gf.xor_bits Gf.and_bits Gf.or_bits Gf.ne_zero_iff Gf.eq_zero_iff Gf.eq_one_iff Gf.beq_bytes Gf.bne_bytes Gf.bv_toNat

/-- Share k: its X and its Data. -/
def gS (l : List (Int × List UInt8)) (k : Nat) : Int × List UInt8 := l.getD k (0, [])
theorem gS_eq {l : List (Int × List UInt8)} {k : Nat} (h : k < l.length) : gS l k = l[k] := by simp [gS, List.getD, List.getElem?_eq_getElem h]
/-- Shares. -/
def SS (w : World) (A : Option Addr) (n c : Nat) (l : List (Int × List UInt8)) : Prop :=
  l.length = n ∧ n ≤ c ∧ n * 32 ≤ lim ∧ ∀ k, k < n → ∃ g o A' n' c', A = some ⟨g, o, none⟩ ∧ w.cell? ⟨g, o + k * 2, none⟩ = some (.int .i64 (gS l k).1) ∧ w.cell? ⟨g, o + k * 2 + 1, none⟩ = some (.slice A' n' c') ∧ BS w A' n' c' (gS l k).2
section
variable {w w' : World} {A : Option Addr} {n c : Nat} {l : List (Int × List UInt8)}
theorem SS.kept (h : SS w A n c l) (hb : Below w.heap.size w w') : SS w' A n c l :=
  ⟨h.1, h.2.1, h.2.2.1, fun k hk => let ⟨g, o, A', n', c', e, h1, h2, h3⟩ := h.2.2.2 k hk; ⟨g, o, A', n', c', e, cell_kept hb h1, cell_kept hb h2, h3.kept hb⟩⟩
theorem SS.drew (h : SS w A n c l) : SS w.drew A n c l := h
theorem SS.drewN (h : SS w A n c l) (k : Nat) : SS (w.drewN k) A n c l := h
theorem SS.len_le (h : SS w A n c l) : n * 32 ≤ 140737488355328 := by have := h.2.2.1; unfold lim at this; omega
theorem SS.at_ (h : SS w A n c l) (hb : Below w.heap.size w w') {k : Nat} (hk : k < n) : ∃ g o A' n' c', A = some ⟨g, o, none⟩ ∧ w'.cell? ⟨g, o + k * 2, none⟩ = some (.int .i64 (gS l k).1) ∧ w'.cell? ⟨g, o + k * 2 + 1, none⟩ = some (.slice A' n' c') ∧ BS w' A' n' c' (gS l k).2 := (h.kept hb).2.2.2 k hk
theorem SS.nil : SS w none 0 0 [] := ⟨rfl, Nat.le_refl _, by decide, fun k hk => absurd hk (by omega)⟩
theorem SS.take (h : SS w A n c l) {m : Nat} (hm : m ≤ n) : SS w A m c (l.take m) :=
  ⟨by rw [List.length_take, h.1]; omega, by have := h.2.1; omega, by have := h.2.2.1; omega, fun k hk => by
    have := h.2.2.2 k (by omega)
    have e : gS (l.take m) k = gS l k := by simp [gS, List.getD, hk]
    rw [e]; exact this⟩
end

def vX (x : Int) : Bool := decide (1 ≤ x ∧ x ≤ 255)
theorem vX_iff {x : Int} : vX x = true ↔ 1 ≤ x ∧ x ≤ 255 := by simp [vX]
def vT (x : Int) : Bool := decide (1 ≤ x ∧ x ≤ 16)
theorem vT_iff {x : Int} : vT x = true ↔ 1 ≤ x ∧ x ≤ 16 := by simp [vT]
theorem ret_bool {a b : Bool} (h : a = b) : Ending.returned (.bool a) = .returned (.bool b) := by rw [h]

set_option maxHeartbeats 400000 in
theorem validX_any (x : Int) (w : World) : Calls Try.prog 55 #[.int .i64 x] w fun e w' => e = .returned (.bool (vX x)) ∧ w = w' := by
  by_cases h1 : 1 ≤ x
  · have HV : Hid (vX x = decide (x ≤ 255)) := Lib.hid (by simp [vX, h1])
    go_enter Try.func55, Try.ntmps55
    go_wp2
    go_ret
    exact ⟨ret_bool (by rw [HV.out]), rfl⟩
  · have HV : Hid (vX x = false) := Lib.hid (by simp [vX, h1])
    have q : decide (1 ≤ x) = false := by simpa using h1
    go_enter Try.func55, Try.ntmps55
    go_wp2
    go_ret
    exact ⟨ret_bool HV.out.symm, rfl⟩
set_option maxHeartbeats 400000 in
theorem validT_any (x : Int) (w : World) : Calls Try.prog 46 #[.int .i64 x] w fun e w' => e = .returned (.bool (vT x)) ∧ w = w' := by
  by_cases h1 : 1 ≤ x
  · have HV : Hid (vT x = decide (x ≤ 16)) := Lib.hid (by simp [vT, h1])
    go_enter Try.func46, Try.ntmps46
    go_wp2
    go_ret
    exact ⟨ret_bool (by rw [HV.out]), rfl⟩
  · have HV : Hid (vT x = false) := Lib.hid (by simp [vT, h1])
    have q : decide (1 ≤ x) = false := by simpa using h1
    go_enter Try.func46, Try.ntmps46
    go_wp2
    go_ret
    exact ⟨ret_bool HV.out.symm, rfl⟩

/-- Number k is an element from 1 to 255 and none of the earlier ones. -/
def xOk (z : List Int) (k : Nat) : Bool := vX (gI z k) && !((List.range k).any fun j => gI z j == gI z k)
def xsB (z : List Int) : Bool := decide (z.length ≤ 64) && (List.range z.length).all (xOk z)
theorem xsB_true {z : List Int} (hl : z.length ≤ 64) (h : ∀ i, i < z.length → xOk z i = true) : xsB z = true := by
  unfold xsB; rw [Bool.and_eq_true, List.all_eq_true]; exact ⟨by simpa using hl, fun i hi => h i (List.mem_range.1 hi)⟩
theorem xsB_false {z : List Int} {i : Nat} (hi : i < z.length) (h : xOk z i = false) : xsB z = false := by
  unfold xsB
  have : (List.range z.length).all (xOk z) = false := by rw [List.all_eq_false]; exact ⟨i, List.mem_range.2 hi, by simp [h]⟩
  rw [this, Bool.and_false]
theorem xsB_long {z : List Int} (h : 64 < z.length) : xsB z = false := by
  unfold xsB; rw [show decide (z.length ≤ 64) = false by simpa using h]; rfl
theorem xsB_spec {z : List Int} (h : xsB z = true) : z.length ≤ 64 ∧ (∀ i, i < z.length → 1 ≤ gI z i ∧ gI z i ≤ 255) ∧ ∀ i j, j < i → i < z.length → gI z j ≠ gI z i := by
  unfold xsB at h; rw [Bool.and_eq_true, List.all_eq_true] at h
  refine ⟨by simpa using h.1, fun i hi => ?_, fun i j hj hi => ?_⟩
  · have := h.2 i (List.mem_range.2 hi); simp [xOk] at this; exact vX_iff.1 this.1
  · have := h.2 i (List.mem_range.2 hi); simp [xOk] at this; exact this.2 j hj

def ChkB (r : Bool) (w : World) (e : Ending) (w' : World) : Prop := e = .returned (.bool r) ∧ Below w.heap.size w w'

set_option maxRecDepth 100000 in
set_option maxHeartbeats 1000000 in
theorem validXs_any (A : Option Addr) (n c : Nat) (z : List Int) (w : World) (h : IS w A n c z) :
    Calls Try.prog 41 #[.slice A n c] w (ChkB (xsB z) w) := by
  have hn := h.len_le
  have HL := Lib.hid h.1
  have H := Lib.hid h
  clear h
  by_cases hbig : 64 < n
  · have q : decide ((64 : Int) < (n : Int)) = true := by simp; omega
    have HR : Hid (xsB z = false) := Lib.hid (xsB_long (by rw [HL.out]; exact hbig))
    go_enter Try.func41, Try.ntmps41
    go_wp2
    go_ret
    exact ⟨ret_bool HR.out.symm, Below.refl _ _⟩
  · have q : decide ((64 : Int) < (n : Int)) = false := by simp; omega
    go_enter Try.func41, Try.ntmps41
    go_wp2
    go_loopw [11] (fun i wr => ∃ k : Nat, k ≤ n ∧ i = .int .i64 (k : Int) ∧ Hid (∀ j, j < k → xOk z j = true) ∧ Hid (Blk wr w.heap.size 48 (sA (fun j => (gI z j).toNat) k)) ∧ Hid (Below w.heap.size w wr)) (fun i _ => n - (intOf i).toNat)
    case atStart =>
      refine ⟨0, by omega, rfl, Lib.hid (fun j hj => absurd hj (by omega)), Lib.hid ?_, Lib.hid ((Below.refl _ _).alloc (Nat.le_refl _) _)⟩
      rw [← sA_zero]
      exact Blk.new w _ _
    case round =>
      obtain ⟨k, hk, rfl, hall, hs, hb⟩ := hrel
      by_cases hlt : k < n
      · obtain ⟨g, o, rfl, hc⟩ := H.out.at_ hb.out hlt
        cases hv : vX (gI z k) with
        | false =>
          have HF : Hid (xsB z = false) := Lib.hid (xsB_false (i := k) (by rw [HL.out]; exact hlt) (by unfold xOk; rw [hv]; rfl))
          go_wp2_with (go_at_call 55; refine (validX_any _ _).mono ?_; rintro e w' ⟨rfl, rfl⟩; rw [hv])
          go_ret
          exact ⟨ret_bool HF.out.symm, hb.out⟩
        | true =>
          obtain ⟨x1, x2⟩ := vX_iff.1 hv
          obtain ⟨y, hy⟩ : ∃ y : Nat, gI z k = (y : Int) := ⟨(gI z k).toNat, by omega⟩
          rw [hy] at hc hv x1 x2
          have hy3 : (y : Int) < 256 := by omega
          have h1 := hs.out.cell y
          rw [sA_get _ _ _ (by omega)] at h1
          have h2 := hs.out.frozen y
          have HY := Lib.hid hy
          cases hsb : sN (fun j => (gI z j).toNat) k y with
          | true =>
            rw [hsb] at h1
            have HF : Hid (xsB z = false) := Lib.hid (xsB_false (i := k) (by rw [HL.out]; exact hlt) (by
              obtain ⟨j, j1, j2⟩ := sN_true hsb
              have h3 : 1 ≤ gI z j := by
                have := hall.out j j1
                unfold xOk at this
                rw [Bool.and_eq_true] at this
                exact (vX_iff.1 this.1).1
              unfold xOk
              have : ((List.range k).any fun j => gI z j == gI z k) = true := by
                rw [List.any_eq_true]
                exact ⟨j, List.mem_range.2 j1, by simp only [hy, beq_iff_eq]; omega⟩
              rw [this]; simp))
            clear hsb hy
            go_wp2_with (go_at_call 55; refine (validX_any _ _).mono ?_; rintro e w' ⟨rfl, rfl⟩; rw [hv])
            go_ret
            exact ⟨ret_bool HF.out.symm, hb.out⟩
          | false =>
            rw [hsb] at h1
            have HA : Hid (∀ j, j < k + 1 → xOk z j = true) := Lib.hid (fun j hj => by
              by_cases e : j = k
              · subst e
                unfold xOk
                have : ((List.range j).any fun i => gI z i == gI z j) = false := by
                  rw [List.any_eq_false]
                  intro i hi he
                  unfold sN at hsb
                  rw [List.any_eq_false] at hsb
                  refine hsb i hi ?_
                  simp only [beq_iff_eq] at he ⊢
                  rw [he, hy]
                  rfl
                rw [this, hy, hv]; rfl
              · exact hall.out j (by omega))
            have HS : Hid (Blk (wr.setCell ⟨w.heap.size, y, none⟩ (.bool true)) w.heap.size 48 (sA (fun j => (gI z j).toNat) (k + 1))) := Lib.hid (by
              have := hs.out.set_ (gI z k).toNat (.bool true)
              rw [sA_set (fun j => (gI z j).toNat) k, hy] at this
              exact this)
            clear hsb hy
            go_wp2_with (go_at_call 55; refine (validX_any _ _).mono ?_; rintro e w' ⟨rfl, rfl⟩; rw [hv])
            go_roundw
            case rel => exact ⟨k + 1, by omega, by go_num, HA, HS, Lib.hid (hb.out.setCell (Nat.le_refl _) _)⟩
            case measure => simp [intOf]; omega
      · have HT : Hid (xsB z = true) := Lib.hid (xsB_true (by rw [HL.out]; omega) (fun i hi => hall.out i (by rw [HL.out] at hi; omega)))
        go_wp2
        go_ret
        exact ⟨ret_bool HT.out.symm, hb.out⟩
end Go.Proofs.Ytakedococfklgaa
/- Contracts of shamir.validShares, validLists. -/
namespace Go.Proofs.Ytakedococfklgaa
open Go.RowKit Gf

/-- The X of shares. -/
def xsL (l : List (Int × List UInt8)) : List Int := l.map (·.1)
/-- Share k has as many bytes as the first one, and not too many. -/
def dOk (l : List (Int × List UInt8)) (k : Nat) : Bool := decide ((gS l k).2.length = (gS l 0).2.length ∧ (gS l k).2.length ≤ 1024)
def shB (l : List (Int × List UInt8)) : Bool := (List.range l.length).all (dOk l) && xsB (xsL l)
theorem shB_false {l : List (Int × List UInt8)} {i : Nat} (hi : i < l.length) (h : dOk l i = false) : shB l = false := by
  unfold shB
  have : (List.range l.length).all (dOk l) = false := by rw [List.all_eq_false]; exact ⟨i, List.mem_range.2 hi, by simp [h]⟩
  rw [this]; rfl
theorem shB_all {l : List (Int × List UInt8)} (h : ∀ i, i < l.length → dOk l i = true) : shB l = xsB (xsL l) := by
  unfold shB
  have : (List.range l.length).all (dOk l) = true := by rw [List.all_eq_true]; intro i hi; exact h i (List.mem_range.1 hi)
  rw [this]; rfl
theorem xs_take (l : List (Int × List UInt8)) (k : Nat) (h : k < l.length) : (xsL (l.take (k + 1))).map (Value.int .i64) = (xsL (l.take k)).map (Value.int .i64) ++ [.int .i64 (gS l k).1] := by
  rw [List.take_succ_eq_append_getElem h, gS_eq h, xsL, List.map_append, List.map_append]; rfl
theorem IS.of_own {w : World} {base : Nat} {v : Value} {n : Nat} {z : List Int} (h : w.ownsRow base 3 1 v n (z.map (Value.int .i64))) (hn : n * 8 ≤ lim) : ∃ A c, v = .slice A n c ∧ IS w A n c z := by
  have hl : z.length = n := by have := h.1; simpa using this
  rcases h.2 with ⟨rfl, rfl⟩ | ⟨g, cap, cur, rfl, _, hh, hnc, _, hsz, htk⟩
  · exact ⟨none, 0, rfl, hl, Nat.le_refl _, hn, fun k hk => absurd hk (by omega)⟩
  · refine ⟨some ⟨g, 0, none⟩, cap, rfl, hl, hnc, hn, fun k hk => ⟨g, 0, rfl, ?_⟩⟩
    have hkl : k < z.length := by omega
    show _ = some (Value.int .i64 (gI z k))
    rw [Nat.zero_add, h.cellAt k (by omega), gI_eq hkl]
    simp [List.getElem?_eq_getElem hkl]

theorem bdA (W : World) (m : Nat) (o : Obj) : Below W.heap.size W ((W.drewN m).alloc o) := (below_drewN (Below.refl _ _) m).alloc (Nat.le_refl _) _
theorem bdB (W : World) (m : Nat) (cs : Array Value) (t : TypeId) {g : Nat} (hg : W.heap.size = g) : Blk ((W.drewN m).alloc (.cells cs t)) g t cs := by subst hg; exact Blk.new (W.drewN m) t cs
set_option maxRecDepth 100000 in
set_option maxHeartbeats 1000000 in
theorem validShares_any (A : Option Addr) (n c : Nat) (l : List (Int × List UInt8)) (w : World) (h : SS w A n c l) :
    Calls Try.prog 45 #[.slice A n c] w (ChkB (shB l) w) := by
  have hn := h.len_le
  have HL := Lib.hid h.1
  have H := Lib.hid h
  clear h
  go_enter Try.func45, Try.ntmps45
  go_wp2
  go_loopw [3, 8] (fun v i wr => ∃ k : Nat, k ≤ n ∧ i = .int .i64 (k : Int) ∧ Hid (∀ j, j < k → dOk l j = true) ∧ Hid (wr.ownsRow w.heap.size 3 1 v k ((xsL (l.take k)).map (Value.int .i64))) ∧ Hid (Below w.heap.size w wr)) (fun _ i _ => n - (intOf i).toNat)
  case atStart => exact ⟨0, by omega, rfl, Lib.hid (fun j hj => absurd hj (by omega)), Lib.hid (World.ownsRow_nil _ _ _ _), Lib.hid (Below.refl _ _)⟩
  case round =>
    obtain ⟨k, hk, rfl, hall, hown, hb⟩ := hrel
    by_cases hlt : k < n
    · obtain ⟨g, o, A1, n1, c1, rfl, hc1, hc2, hr1⟩ := H.out.at_ hb.out hlt
      obtain ⟨g0, o0, A0, n0, c0, e0, hc3, hc4, hr0⟩ := H.out.at_ hb.out (show 0 < n by omega)
      cases Option.some.inj e0
      rw [Nat.zero_mul, Nat.add_zero] at hc4
      have HR1 : Hid ((gS l k).2.length = n1) := Lib.hid hr1.1
      have HR0 : Hid ((gS l 0).2.length = n0) := Lib.hid hr0.1
      have hbA : Below wr.heap.size wr (wr.alloc (.cells #[.int .i64 (gS l k).1, .slice A1 n1 c1] 33)) := (Below.refl _ _).alloc (Nat.le_refl _) _
      have hc4' := cell_kept hbA hc4
      have HBA := Lib.hid (below_then hb.out hbA)
      have HOA := Lib.hid (Kp.own (S := fun _ => False) (Kp.of_below hbA) hown.out (fun _ _ => id))
      clear hbA hc3 hr1 hr0 hc4
      by_cases e1 : n1 = n0
      · have HE := Lib.hid e1
        have q1 : (n1 != n0) = false := by simpa using e1
        have q2 : ((n1 : Int) != (n0 : Int)) = false := by simp; omega
        clear e1
        by_cases e2 : 1024 < n1
        · have q3 : decide ((1024 : Int) < (n1 : Int)) = true := by simp; omega
          have HF : Hid (shB l = false) := Lib.hid (shB_false (i := k) (by rw [HL.out]; exact hlt) (by unfold dOk; rw [HR1.out]; simp; omega))
          go_wp2
          go_quiet (fail)
          go_wp2
          go_ret
          exact ⟨ret_bool HF.out.symm, below_drewN HBA.out _⟩
        · have q3 : decide ((1024 : Int) < (n1 : Int)) = false := by simp; omega
          have HA : Hid (∀ j, j < k + 1 → dOk l j = true) := Lib.hid (fun j hj => by
            by_cases e : j = k
            · subst e; unfold dOk; rw [HR1.out, HR0.out]; have := HE.out; simp; omega
            · exact hall.out j (by omega))
          go_wp2
          go_quiet (fail)
          have HBB := Lib.hid (bdA (wr.alloc (.cells #[.int .i64 (gS l k).1, .slice A1 n1 c1] 33)) nq (.cells #[.int .i64 (gS l k).1] 3))
          have HOW := Lib.hid (Kp.own (S := fun _ => False) (Kp.of_below HBB.out) HOA.out (fun _ _ => id))
          have HBW := Lib.hid (HBA.out.trans (HBB.out.mono HBA.out.size))
          have HBK := Lib.hid (bdB (wr.alloc (.cells #[.int .i64 (gS l k).1, .slice A1 n1 c1] 33)) nq #[.int .i64 (gS l k).1] 3 (World.size_alloc _ _))
          clear hc1 hc2 hc4' q1 q2 q3
          go_wp2_with (first
            | (at_builtin; refine wpList_app1 _ rfl (.tmp 27) (.tmp 30) 24 3 (.int .i64 0) 8 Try.underlying24 infoInt rfl rfl w.heap.size u3 k ((xsL (l.take k)).map (Value.int .i64)) rfl HOW.out (wr.heap.size + 1) 1 3 (.int .i64 (gS l k).1) rfl HBK.out rfl (by omega) (by omega) HBW.out.size ?_; intro v4 w6 hp4))
          have HR : Hid (w6.ownsRow w.heap.size 3 1 v4 (k + 1) ((xsL (l.take (k + 1))).map (Value.int .i64)) ∧ Below w.heap.size w w6) := by
            refine Lib.hid ⟨?_, HBW.out.grown hp4.2.1 HBW.out.size (fun b hb' => own_base HOW.out b hb')⟩
            rw [xs_take l k (by rw [HL.out]; exact hlt)]
            exact hp4.1
          clear hp4
          go_roundw
          case rel => exact ⟨k + 1, by omega, by go_num, HA, Lib.hid HR.out.1, Lib.hid HR.out.2⟩
          case measure => simp [intOf]; omega
      · have HE := Lib.hid e1
        have q1 : (n1 != n0) = true := by simpa using e1
        have q2 : ((n1 : Int) != (n0 : Int)) = true := by simp; omega
        have HF : Hid (shB l = false) := Lib.hid (shB_false (i := k) (by rw [HL.out]; exact hlt) (by unfold dOk; rw [HR1.out, HR0.out]; simp; omega))
        clear e1
        go_wp2
        go_quiet (fail)
        go_wp2
        go_ret
        exact ⟨ret_bool HF.out.symm, below_drewN HBA.out _⟩
    · obtain rfl : k = n := by omega
      have HT : Hid (shB l = xsB (xsL l)) := Lib.hid (shB_all (fun i hi => hall.out i (by rw [HL.out] at hi; exact hi)))
      have ho := hown.out
      rw [List.take_of_length_le (by rw [HL.out]; exact Nat.le_refl _)] at ho
      obtain ⟨A2, c2, rfl, hi2⟩ := IS.of_own ho (by unfold lim; omega)
      have HI := Lib.hid hi2
      clear ho hi2
      go_wp2_with fail
      refine (validXs_any _ _ _ _ _ HI.out).mono ?_
      rintro e w2 ⟨rfl, hb2⟩
      have HB2 := Lib.hid (below_then hb.out hb2)
      clear hb2
      rw [← HT.out]
      go_wp2_with fail
      go_ret
      exact ⟨rfl, HB2.out⟩

/-- At most 15 lists of so many bytes. -/
def ltB (m : List (List UInt8)) (size : Int) : Bool := (List.range m.length).all (fun i => decide (((gR m i).length : Int) = size)) && decide (m.length < 16)
set_option maxRecDepth 100000 in
set_option maxHeartbeats 1000000 in
theorem validLists_any (A : Option Addr) (n c : Nat) (m : List (List UInt8)) (size : Int) (w : World) (h : MS w A n c m) :
    Calls Try.prog 40 #[.slice A n c, .int .i64 size] w fun e w' => e = .returned (.bool (ltB m size)) ∧ w = w' := by
  have hn := h.len_le
  have HL := Lib.hid h.1
  have H := Lib.hid h
  clear h
  go_enter Try.func40, Try.ntmps40
  go_wp2
  go_loop [9] (fun i => ∃ k : Nat, k ≤ n ∧ i = .int .i64 (k : Int) ∧ Hid (∀ j, j < k → ((gR m j).length : Int) = size)) (fun i => n - (intOf i).toNat)
  case atStart => exact ⟨0, by omega, rfl, Lib.hid (fun j hj => absurd hj (by omega))⟩
  case round =>
    obtain ⟨k, hk, rfl, hall⟩ := hrel
    by_cases hlt : k < n
    · obtain ⟨g, o, A1, n1, c1, rfl, hc1, hr1⟩ := H.out.at_ (Below.refl _ _) hlt
      have HR1 : Hid ((gR m k).length = n1) := Lib.hid hr1.1
      clear hr1
      by_cases e : (n1 : Int) = size
      · have q : ((n1 : Int) != size) = false := by simpa using e
        have HA : Hid (∀ j, j < k + 1 → ((gR m j).length : Int) = size) := Lib.hid (fun j hj => by
          by_cases e' : j = k
          · subst e'; rw [HR1.out]; exact e
          · exact hall.out j (by omega))
        have HE := Lib.hid e
        clear e
        go_wp2
        go_round
        case rel => exact ⟨k + 1, by omega, by go_num, HA⟩
        case measure => simp [intOf]; omega
      · have q : ((n1 : Int) != size) = true := by simpa using e
        have HF : Hid (ltB m size = false) := Lib.hid (by
          unfold ltB
          have : (List.range m.length).all (fun i => decide (((gR m i).length : Int) = size)) = false := by
            rw [List.all_eq_false]; exact ⟨k, List.mem_range.2 (by rw [HL.out]; exact hlt), by rw [HR1.out]; simpa using e⟩
          rw [this]; rfl)
        have HE := Lib.hid e
        clear e
        go_wp2
        go_ret
        exact ⟨ret_bool HF.out.symm, rfl⟩
    · have HF : Hid (ltB m size = decide (n < 16)) := Lib.hid (by
        unfold ltB
        have : (List.range m.length).all (fun i => decide (((gR m i).length : Int) = size)) = true := by
          rw [List.all_eq_true]; intro i hi; rw [List.mem_range, HL.out] at hi; simpa using hall.out i (by omega)
        rw [this, HL.out]; rfl)
      have q : decide ((n : Int) < 16) = decide (n < 16) := by simp; omega
      by_cases h16 : n < 16
      · have q2 : decide ((n : Int) < 16) = true := by simp; omega
        have HF' : Hid (ltB m size = true) := Lib.hid (by rw [HF.out]; simpa using h16)
        clear q
        go_wp2
        go_ret
        exact ⟨ret_bool (by rw [HF'.out]), rfl⟩
      · have q2 : decide ((n : Int) < 16) = false := by simp; omega
        have HF' : Hid (ltB m size = false) := Lib.hid (by rw [HF.out]; simpa using h16)
        clear q
        go_wp2
        go_ret
        exact ⟨ret_bool (by rw [HF'.out]), rfl⟩
end Go.Proofs.Ytakedococfklgaa
/- Contract of shamir.valueAt. -/
namespace Go.Proofs.Ytakedococfklgaa
open Go.RowKit Gf

theorem ofInt_i64 (a : Nat) (ha : a < 9223372036854775808) : (BitVec.ofInt 64 (a : Int)).toNat = a := by
  rw [BitVec.ofInt_natCast, BitVec.toNat_ofNat]; exact Nat.mod_eq_of_lt (by omega)
theorem i64_xor_nat (a b : Nat) (ha : a < 9223372036854775808) (hb : b < 9223372036854775808) : bits .xor .i64 (a : Int) (b : Int) = ((a ^^^ b : Nat) : Int) := by
  have hx : a ^^^ b < 2 ^ 63 := Nat.xor_lt_two_pow (by omega) (by omega)
  show IntKind.i64.wrap ((BitVec.ofInt 64 (a : Int) ^^^ BitVec.ofInt 64 (b : Int)).toNat : Int) = _
  rw [BitVec.toNat_xor, ofInt_i64 a ha, ofInt_i64 b hb, IntKind.wrap_i64]
  omega
theorem xor_i64 (a b : UInt8) : bits .xor .i64 (bv a) (bv b) = bv (a ^^^ b) := by
  unfold bv; rw [i64_xor_nat _ _ (by have := a.toNat_lt; omega) (by have := b.toNat_lt; omega), UInt8.toNat_xor]
attribute [local go_sem] Gf.xor_bits Gf.and_bits Gf.or_bits Gf.ne_zero_iff Gf.eq_zero_iff Gf.eq_one_iff Gf.beq_bytes Gf.bne_bytes Gf.bv_toNat xor_i64 Gf.bv_wrap

/-- The X of share k as an element. -/
def gX (l : List (Int × List UInt8)) (k : Nat) : UInt8 := UInt8.ofNat (gS l k).1.toNat
theorem gX_eq {l : List (Int × List UInt8)} {k : Nat} (h0 : 0 ≤ (gS l k).1) (h1 : (gS l k).1 < 256) : (gS l k).1 = bv (gX l k) := (bv_ofNat _ h0 h1).symm
/-- The product of x + X over the shares but number i. -/
def lgA (l : List (Int × List UInt8)) (x : UInt8) (i : Nat) : Nat → UInt8
  | 0 => 1
  | j + 1 => if j = i then lgA l x i j else mul (lgA l x i j) (x ^^^ gX l j)
/-- Lagrange's factor of share i. -/
def lgF (l : List (Int × List UInt8)) (x : UInt8) (i : Nat) : UInt8 := Py.dv (lgA l x i l.length) (lgA l (gX l i) i l.length)
/-- The values so far. -/
def vlK (l : List (Int × List UInt8)) (x : UInt8) (L : Nat) : Nat → List UInt8
  | 0 => zeros L
  | k + 1 => muladd (vlK l x L k) (gS l k).2 (lgF l x k)
def vlA (l : List (Int × List UInt8)) (x : UInt8) : List UInt8 := vlK l x (gS l 0).2.length l.length
/-- All have L bytes. -/
def Eql (l : List (Int × List UInt8)) (L : Nat) : Prop := ∀ k, k < l.length → (gS l k).2.length = L
theorem vlK_length {l : List (Int × List UInt8)} {L : Nat} (h : Eql l L) (x : UInt8) : ∀ k, k ≤ l.length → (vlK l x L k).length = L
  | 0, _ => zeros_length L
  | k + 1, hk => by rw [vlK, muladd_length _ _ _ (by rw [vlK_length h x k (by omega), h k (by omega)]), h k (by omega)]

set_option maxRecDepth 100000 in
set_option maxHeartbeats 1000000 in
theorem valueAt_any (A : Option Addr) (n c L : Nat) (l : List (Int × List UInt8)) (x : UInt8) (w : World) (h : SS w A n c l) (h0 : 0 < n) (hL : Eql l L) (hX : ∀ k, k < n → 0 ≤ (gS l k).1 ∧ (gS l k).1 < 256) :
    Calls Try.prog 54 #[.slice A n c, .int .i64 (bv x)] w (Rets (GvB (vlA l x)) w) := by
  have hn := h.len_le
  have HL := Lib.hid h.1
  have H := Lib.hid h
  have HX : Hid (∀ k, k < n → (gS l k).1 = bv (gX l k)) := Lib.hid (fun k hk => gX_eq (hX k hk).1 (hX k hk).2)
  have HQ := Lib.hid hL
  obtain ⟨g, o, A0, n0, c0, rfl, hc1, hc2, hr0⟩ := h.at_ (Below.refl _ _) h0
  rw [Nat.zero_mul, Nat.add_zero] at hc2
  obtain rfl : n0 = L := by rw [← hr0.1]; exact hL 0 (by rw [HL.out]; exact h0)
  have hmk := make_bytes n0 hr0.len_le
  have hn0 := hr0.len_le
  have HV : Hid (vlA l x = vlK l x n0 n) := Lib.hid (by rw [vlA, hL 0 (by rw [HL.out]; exact h0), HL.out])
  clear h hL hX hc1 hr0
  go_enter Try.func54, Try.ntmps54
  go_wp2_with fail
  clear hmk hc2
  go_loopw [5, 22] (fun v i wr => ∃ (k : Nat) (A1 : Option Addr) (c1 : Nat), k ≤ n ∧ i = .int .i64 (k : Int) ∧ v = .slice A1 n0 c1 ∧ Hid (BS wr A1 n0 c1 (vlK l x n0 k)) ∧ Hid (AtB A1 (w.heap.size ≤ ·)) ∧ Hid (Below w.heap.size w wr)) (fun _ i _ => n - (intOf i).toNat)
  case atStart => exact ⟨0, _, n0, by omega, rfl, rfl, Lib.hid (BS.of_blk (l := zeros n0) (Blk.new w _ _) (zeros_length _) (by unfold lim; omega)), Lib.hid (fun a e => by cases e; exact Nat.le_refl _), Lib.hid ((Below.refl _ _).alloc (Nat.le_refl _) _)⟩
  case round =>
    obtain ⟨k, A1, c1, hk, rfl, rfl, hv, hf, hb⟩ := hrel
    by_cases hlt : k < n
    · obtain ⟨w1, rfl⟩ : ∃ w1, w1 = wr := ⟨_, rfl⟩
      obtain ⟨g', o', A2, n2, c2, e2, hc1, hc2, hr2⟩ := H.out.at_ hb.out hlt
      cases Option.some.inj e2
      rw [HX.out k hlt] at hc1
      obtain rfl : n2 = n0 := by rw [← hr2.1]; exact HQ.out k (by rw [HL.out]; exact hlt)
      have hbA : Below w1.heap.size w1 (w1.alloc (.cells #[.int .i64 (bv (gX l k)), .slice A2 n2 c2] 33)) := (Below.refl _ _).alloc (Nat.le_refl _) _
      have HBK := Lib.hid (Blk.new w1 33 #[.int .i64 (bv (gX l k)), .slice A2 n2 c2])
      have HVA := Lib.hid (hv.out.kept hbA)
      have HRA := Lib.hid (hr2.kept hbA)
      have HBA := Lib.hid (below_then hb.out hbA)
      clear hbA hr2 e2
      go_wp2_with fail
      clear hc1 hc2
      obtain ⟨w2, hw2⟩ : ∃ w2, w2 = w1.alloc (.cells #[.int .i64 (bv (gX l k)), .slice A2 n2 c2] 33) := ⟨_, rfl⟩
      rw [← hw2] at HBK HVA HRA HBA ⊢
      clear hw2
      go_loopw [8, 9, 29] (fun a b i wr => ∃ (j : Nat) (p q : UInt8), j ≤ n ∧ i = .int .i64 (j : Int) ∧ a = B p ∧ b = B q ∧ Hid (p = lgA l x k j) ∧ Hid (q = lgA l (gX l k) k j) ∧ Hid (Below w2.heap.size w2 wr)) (fun _ _ i _ => n - (intOf i).toNat)
      case atStart => exact ⟨0, 1, 1, by omega, rfl, rfl, rfl, Lib.hid rfl, Lib.hid rfl, Lib.hid (Below.refl _ _)⟩
      case round =>
        obtain ⟨j, p, q, hj, rfl, rfl, rfl, hp, hq, hb2⟩ := hrel
        by_cases hjn : j < n
        · obtain ⟨g', o', A3, n3, c3, e3, hd1, hd2, hr3⟩ := H.out.at_ (below_then HBA.out hb2.out) hjn
          cases Option.some.inj e3
          rw [HX.out j hjn] at hd1
          have hs := (HBK.out.kept hb2.out).cell 0
          have hbB : Below wr.heap.size wr (wr.alloc (.cells #[.int .i64 (bv (gX l j)), .slice A3 n3 c3] 33)) := (Below.refl _ _).alloc (Nat.le_refl _) _
          have hs' : (wr.alloc (.cells #[.int .i64 (bv (gX l j)), .slice A3 n3 c3] 33)).cell? ⟨w1.heap.size, 0, none⟩ = some (.int .i64 (bv (gX l k))) := by
            rw [(HBK.out.kept (below_then hb2.out hbB)).cell]; rfl
          have HB3 := Lib.hid (below_then hb2.out hbB)
          clear hbB hr3 e3 hs
          by_cases hjk : j = k
          · have q1 : (j != k) = false := by simpa using hjk
            have q2 : ((j : Int) != (k : Int)) = false := by simp; omega
            have HP : Hid (p = lgA l x k (j + 1)) := Lib.hid (by rw [lgA, if_pos hjk]; exact hp.out)
            have HQ' : Hid (q = lgA l (gX l k) k (j + 1)) := Lib.hid (by rw [lgA, if_pos hjk]; exact hq.out)
            have HJ := Lib.hid hjk
            clear hjk hp hq
            go_wp2_with fail
            go_roundw
            case rel => exact ⟨j + 1, p, q, by omega, by go_num, rfl, rfl, HP, HQ', HB3⟩
            case measure => simp [intOf]; omega
          · have q1 : (j != k) = true := by simpa using hjk
            have q2 : ((j : Int) != (k : Int)) = true := by simp; omega
            have HP : Hid (mul p (x ^^^ gX l j) = lgA l x k (j + 1)) := Lib.hid (by rw [lgA, if_neg hjk, hp.out])
            have HQ' : Hid (mul q (gX l k ^^^ gX l j) = lgA l (gX l k) k (j + 1)) := Lib.hid (by rw [lgA, if_neg hjk, hq.out])
            have HJ := Lib.hid hjk
            clear hjk hp hq
            go_wp2_with (go_at_call 76; refine (mul_any _ _ _).mono ?_; rintro e w' ⟨rfl, rfl⟩)
            go_roundw
            case rel => exact ⟨j + 1, _, _, by omega, by go_num, rfl, rfl, HP, HQ', HB3⟩
            case measure => simp [intOf]; omega
        · obtain rfl : j = n := by omega
          have HF : Hid (Py.dv p q = lgF l x k) := Lib.hid (by rw [lgF, HL.out, hp.out, hq.out])
          have hs := (HBK.out.kept hb2.out).cell 1
          have hs' : wr.cell? ⟨w1.heap.size, 1, none⟩ = some (.slice A2 n2 c2) := by rw [hs]; rfl
          clear hs
          go_wp2_with (go_at_call 72; refine (div_any _ _ _).mono ?_; rintro e w' ⟨rfl, rfl⟩)
          refine (muladd_any A1 A2 n2 c1 c2 _ _ (Py.dv p q) _ (HVA.out.kept hb2.out) (HRA.out.kept hb2.out)).mono ?_
          rintro e w4 ⟨v4, rfl, hv4⟩
          rw [HF.out] at hv4
          obtain ⟨g4, n4, rfl, h41, h42, h43, h44⟩ := hv4
          obtain rfl : n4 = n2 := by rw [← h41, muladd_length _ _ _ (by rw [hv.out.1, HRA.out.1]), HRA.out.1]
          have HB4 := Lib.hid (below_then (below_then HBA.out hb2.out) h44)
          have HV4 : Hid (BS w4 (some ⟨g4, 0, none⟩) n4 n4 (vlK l x n4 (k + 1))) := Lib.hid (BS.of_blk h43 h41 (by unfold lim; omega))
          have HF4 : Hid (AtB (some ⟨g4, 0, none⟩) (w.heap.size ≤ ·)) := Lib.hid (fun a e => by cases e; exact Nat.le_trans (below_then HBA.out hb2.out).size h42)
          clear h41 h42 h43 h44 hs'
          go_wp2_with fail
          go_roundw
          case rel => exact ⟨k + 1, _, n4, by omega, by go_num, rfl, HV4, HF4, HB4⟩
          case measure => simp [intOf]; omega
    · obtain rfl : k = n := by omega
      have HR : Hid (GvB (vlA l x) w (.slice A1 n0 c1) wr) := Lib.hid (by rw [HV.out]; exact ⟨_, _, _, rfl, hv.out, hf.out, hb.out⟩)
      go_wp2_with fail
      go_ret
      exact ⟨_, rfl, HR.out⟩
end Go.Proofs.Ytakedococfklgaa
/- Bytes as strings: string(b), and bytes.Equal. -/
namespace Go.Proofs.Ytakedococfklgaa
open Go.RowKit Gf

/-- The string of bytes. -/
def strB (l : List UInt8) : ByteArray := ⟨l.toArray⟩
theorem strB_inj {l l' : List UInt8} (h : strB l = strB l') : l = l' := by
  unfold strB at h
  injection h with h
  simpa using congrArg Array.toList h
theorem strB_list (l : List UInt8) : (strB l).toList = l := by rw [ByteArray.toList_eq]; rfl
theorem strB_eq (l l' : List UInt8) : ((strB l).toList == (strB l').toList) = decide (l = l') := by
  rw [strB_list, strB_list]
  by_cases h : l = l'
  · simp [h]
  · simp [h]
theorem strB_bne (l l' : List UInt8) : ((strB l).toList != (strB l').toList) = !decide (l = l') := by rw [bne, strB_eq]
theorem strB_nums (l : List UInt8) : strOfNums (l.map bv) = strB l := by
  unfold strOfNums strB
  congr 2
  rw [List.map_map]
  conv => rhs; rw [← List.map_id l]
  apply List.map_congr_left
  intro x _
  simp [bv]
theorem conv_str {w : World} {A : Option Addr} {n c : Nat} {l : List UInt8} (h : BS w A n c l) :
    (convert 22 9 (.slice A n c)).run Try.prog w = .ok (.string (strB l)) w := by
  cases A with
  | none =>
    have h0 : n = 0 := by
      rcases Nat.eq_zero_or_pos n with h0 | h0
      · exact h0
      · obtain ⟨g, o, e, _⟩ := h.2.2.2 0 h0
        cases e
    have hl : l = [] := List.eq_nil_of_length_eq_zero (by rw [h.1, h0])
    rw [run_convert_bytes_nil w _ _ Try.underlying22 Try.underlying5 n c _ Try.underlying9, hl]
    rfl
  | some a =>
    by_cases h0 : n = 0
    · have hl : l = [] := List.eq_nil_of_length_eq_zero (by rw [h.1, h0])
      subst h0 hl
      refine (run_convert_bytes_string w 22 9 5 (some a) 0 c Try.underlying22 Try.underlying5 Try.underlying9).trans ?_
      exact run_bytesToString w a 0 c [] (run_loadCells_list (P := Try.prog) w a [] (fun j v hj => by simp at hj))
    · obtain ⟨g, o, e, _⟩ := h.2.2.2 0 (by omega)
      obtain rfl := Option.some.inj e
      rw [run_convert_bytes_arg w _ _ Try.underlying22 Try.underlying5 g o n c (l.map bv) (by simp [h.1]) (fun i hi => by
        obtain ⟨g', o', e', hc⟩ := h.2.2.2 i hi
        cases Option.some.inj e'
        have hl : i < l.length := by rw [h.1]; exact hi
        rw [hc]
        show some (B (gB l i)) = _
        rw [gB_eq hl, B]
        simp [List.getD, List.getElem?_eq_getElem hl]) _ Try.underlying9, strB_nums]

set_option maxHeartbeats 1000000 in
theorem equal_any (A A' : Option Addr) (n c n' c' : Nat) (l l' : List UInt8) (w : World) (h : BS w A n c l) (h' : BS w A' n' c' l') :
    Calls Try.prog 77 #[.slice A n c, .slice A' n' c'] w fun e w' => e = .returned (.bool (decide (l = l'))) ∧ w = w' := by
  have c1 := conv_str h
  have c2 := conv_str h'
  have HE := Lib.hid (strB_eq l l')
  clear h h'
  go_enter Try.func77, Try.ntmps77
  go_wp2
  go_ret
  exact ⟨ret_bool (by first | exact HE.out | (rw [← HE.out]; rfl) | trace_state), rfl⟩
end Go.Proofs.Ytakedococfklgaa
/- A guarded effect in a text whose guard is met. -/
namespace Go.Proofs.Ytakedococfklgaa
open Go
namespace Text
variable {P : Program} {ops : Array Oper} {Q : Exit → Act → World → Prop} {S : World → Prop} {a : Act} {w : World} {r : List (Nat × Nat)} {i : Nat}
theorem effw {o : Oper} (ho : ops[i]? = some o) (hw : Region.wanted o (yielded ops a.tmps) = true) (h : ∀ K : Act → World → Prop, (∀ a w, S w → wpText P ops Q S r a w → K a w) → o.wp P a w K NoQ) : wpText P ops Q S ((i, 2) :: r) a w := by
  have key : wpOp P ops Q i (fun a' w' => S w' ∧ wpText P ops Q S r a' w') a w := by
    unfold wpOp
    simp only [ho]
    rw [if_pos hw]
    exact .inl (wp_of_noQ (h _ fun _ _ h1 h2 => ⟨h1, h2⟩))
  with_unfolding_all exact key
theorem lastw {o : Oper} (ho : ops[i]? = some o) (hw : Region.wanted o (yielded ops a.tmps) = true) (h : ∀ K : Act → World → Prop, (∀ a w, wpText P ops Q S r a w → K a w) → o.wp P a w K NoQ) : wpText P ops Q S ((i, 3) :: r) a w := by
  have key : wpOp P ops Q i (fun a' w' => wpText P ops Q S r a' w') a w := by
    unfold wpOp
    simp only [ho]
    rw [if_pos hw]
    exact .inl (wp_of_noQ (h _ fun _ _ h2 => h2))
  with_unfolding_all exact key
end Text
end Go.Proofs.Ytakedococfklgaa
/- Contracts of shamir.agree, check, Combine, Extend, Check. -/
namespace Go.Proofs.Ytakedococfklgaa
open Go.RowKit Gf

theorem shB_spec {l : List (Int × List UInt8)} (h : shB l = true) : l.length ≤ 64 ∧ Eql l (gS l 0).2.length ∧ (∀ k, k < l.length → (gS l k).2.length ≤ 1024) ∧ (∀ k, k < l.length → 1 ≤ (gS l k).1 ∧ (gS l k).1 ≤ 255) ∧ ∀ i j, j < i → i < l.length → (gS l j).1 ≠ (gS l i).1 := by
  unfold shB at h
  rw [Bool.and_eq_true, List.all_eq_true] at h
  obtain ⟨h1, h2⟩ := h
  obtain ⟨a1, a2, a3⟩ := xsB_spec h2
  have hl : (xsL l).length = l.length := by simp [xsL]
  have hg : ∀ k, k < l.length → gI (xsL l) k = (gS l k).1 := fun k hk => by rw [gI_eq (by rw [hl]; exact hk), gS_eq hk]; simp [xsL]
  rw [hl] at a1 a2 a3
  refine ⟨a1, fun k hk => ?_, fun k hk => ?_, fun k hk => ?_, fun i j hj hi => ?_⟩
  · have := h1 k (List.mem_range.2 hk); simp [dOk] at this; exact this.1
  · have := h1 k (List.mem_range.2 hk); simp [dOk] at this; exact this.2
  · rw [← hg k hk]; exact a2 k hk
  · rw [← hg i hi, ← hg j (by omega)]; exact a3 i j hj hi

/-- Do the first t shares foretell the others? -/
def agK (l : List (Int × List UInt8)) (t i : Nat) : Bool := decide (vlA (l.take t) (gX l i) = (gS l i).2)
def agB (l : List (Int × List UInt8)) (t : Nat) : Bool := (List.range l.length).all fun i => decide (i < t) || agK l t i
theorem agB_false {l : List (Int × List UInt8)} {t i : Nat} (hi : i < l.length) (ht : t ≤ i) (h : agK l t i = false) : agB l t = false := by
  unfold agB; rw [List.all_eq_false]; exact ⟨i, List.mem_range.2 hi, by rw [h]; simp; omega⟩
theorem agB_true {l : List (Int × List UInt8)} {t : Nat} (h : ∀ i, t ≤ i → i < l.length → agK l t i = true) : agB l t = true := by
  unfold agB; rw [List.all_eq_true]; intro i hi
  by_cases e : i < t
  · simp [e]
  · rw [h i (by omega) (List.mem_range.1 hi)]; simp
theorem gS_take {l : List (Int × List UInt8)} {m k : Nat} (h : k < m) : gS (l.take m) k = gS l k := by simp [gS, List.getD, h]

set_option maxRecDepth 100000 in
set_option maxHeartbeats 1000000 in
theorem agree_any (A : Option Addr) (n c L t : Nat) (l : List (Int × List UInt8)) (w : World) (h : SS w A n c l) (h0 : 0 < t) (hL : Eql l L) (hX : ∀ k, k < n → 1 ≤ (gS l k).1 ∧ (gS l k).1 ≤ 255) (ht : t ≤ 16) :
    Calls Try.prog 56 #[.slice A n c, .int .i64 (t : Int)] w (ChkB (agB l t) w) := by
  have hn := h.len_le
  have hnc := h.2.1
  have HL := Lib.hid h.1
  have H := Lib.hid h
  have HX := Lib.hid hX
  have HQ := Lib.hid hL
  clear h hL hX
  by_cases htn : n ≤ t
  · have HR : Hid (agB l t = true) := Lib.hid (agB_true (fun i h1 h2 => by rw [HL.out] at h2; omega))
    have q : decide ((t : Int) < (n : Int)) = false := by simp; omega
    have q' : decide (t < n) = false := by simp; omega
    go_enter Try.func56, Try.ntmps56
    go_wp2
    go_loop [5] (fun i => i = .int .i64 (t : Int)) (fun _ => 0)
    case atStart => rfl
    case round =>
      obtain rfl := hrel
      go_wp2
      go_ret
      exact ⟨ret_bool HR.out.symm, Below.refl _ _⟩
  · go_enter Try.func56, Try.ntmps56
    go_wp2
    go_loopw [5] (fun i wr => ∃ k : Nat, t ≤ k ∧ k ≤ n ∧ i = .int .i64 (k : Int) ∧ Hid (∀ j, t ≤ j → j < k → agK l t j = true) ∧ Hid (Below w.heap.size w wr)) (fun i _ => n - (intOf i).toNat)
    case atStart => exact ⟨t, by omega, by omega, rfl, Lib.hid (fun j h1 h2 => absurd h2 (by omega)), Lib.hid (Below.refl _ _)⟩
    case round =>
      obtain ⟨k, hk1, hk2, rfl, hall, hb⟩ := hrel
      by_cases hlt : k < n
      · obtain ⟨g, o, A1, n1, c1, rfl, hc1, hc2, hr1⟩ := H.out.at_ hb.out hlt
        rw [gX_eq (l := l) (k := k) (by have := HX.out k hlt; omega) (by have := HX.out k hlt; omega)] at hc1
        have HR1 := Lib.hid hr1
        have HS : Hid (SS wr (some ⟨g, o, none⟩) t c (l.take t)) := Lib.hid ((H.out.kept hb.out).take (by omega))
        have hlen : Hid ((l.take t).length = t) := Lib.hid (by rw [List.length_take, HL.out]; omega)
        have htc : t ≤ c := by omega
        have htc' : (t : Int) ≤ (c : Int) := by omega
        have htn' : t ≤ n := by omega
        clear hr1
        go_wp2_with fail
        refine Text.wp_region_text (fun w' => w'.cell? ⟨g, o + k * 2 + 1, none⟩ = some (.slice A1 n1 c1)) [(0, 4), (1, 4), (2, 4), (3, 4), (4, 4), (5, 4), (6, 4), (9, 4), (10, 4), (11, 4), (12, 4), (13, 0), (7, 1), (8, 2), (14, 2), (15, 4)] (by kernel_rfl) (by kernel_rfl) (fun _ _ _ _ _ h => h) (hc2) ?_
        iterate 11 (refine Text.purek rfl rfl (fun K hK => ⟨_, fun w' => by go_simp <;> rfl, ?_⟩); go_simp; refine hK _ ?_; clear hK K)
        (refine Text.heldk rfl rfl (fun K hK => ⟨_, fun w' hw' => by go_simp <;> rfl, ?_⟩); go_simp; refine hK _ ?_; clear hK K)
        (refine Text.readk rfl rfl (fun K hK => ⟨_, by go_simp <;> rfl, ?_⟩); go_simp; refine hK _ ?_; clear hK K)
        refine Text.eff rfl rfl (fun K hK => ?_)
        go_simp
        refine (valueAt_any _ t c L (l.take t) (gX l k) wr.drew HS.out.drew h0 (fun j hj => by rw [hlen.out] at hj; rw [gS_take hj]; exact HQ.out j (by rw [HL.out]; omega)) (fun j hj => by rw [gS_take hj]; have := HX.out j (by omega); omega)).mono ?_
        rintro e w3 ⟨v3, rfl, A3, n3, c3, rfl, h31, h32, h33⟩
        have h33' : Below wr.heap.size wr w3 := below_ofDrew h33
        refine hK _ _ (cell_kept h33' hc2) ?_
        have HB3 := Lib.hid (below_then hb.out h33')
        have H31 := Lib.hid h31
        have HR3 := Lib.hid (HR1.out.kept h33')
        have hc3 := cell_kept h33' hc2
        clear hK K h31 h32 h33 h33' hb hc1 hc2 HS
        refine Text.eff rfl rfl (fun K hK => ?_)
        go_simp
        refine (equal_any A3 A1 n3 c3 n1 c1 _ _ w3 H31.out HR3.out).mono ?_
        rintro e w4 ⟨rfl, rfl⟩
        refine hK _ _ hc3 ?_
        clear hK K H31 HR3
        have HAG : Hid (decide (vlA (l.take t) (gX l k) = (gS l k).2) = agK l t k) := Lib.hid rfl
        rw [HAG.out]
        cases hag : agK l t k with
        | true =>
          have HA : Hid (∀ j, t ≤ j → j < k + 1 → agK l t j = true) := Lib.hid (fun j h1 h2 => by
            by_cases e : j = k
            · rw [e]; exact hag
            · exact hall.out j h1 (by omega))
          clear hag hall
          (refine Text.purek rfl rfl (fun K hK => ⟨_, fun w' => by go_simp <;> rfl, ?_⟩); go_simp; refine hK _ ?_; clear hK K)
          refine Text.done ?_
          clear hc3
          go_wp2_with fail
          go_roundw
          case rel => exact ⟨k + 1, by omega, by omega, by go_num, HA, HB3⟩
          case measure => simp [intOf]; omega
        | false =>
          have HR : Hid (agB l t = false) := Lib.hid (agB_false (by rw [HL.out]; exact hlt) hk1 hag)
          clear hag hall
          (refine Text.purek rfl rfl (fun K hK => ⟨_, fun w' => by go_simp <;> rfl, ?_⟩); go_simp; refine hK _ ?_; clear hK K)
          refine Text.done ?_
          clear hc3
          go_wp2_with fail
          go_ret
          exact ⟨ret_bool HR.out.symm, HB3.out⟩
      · have HR : Hid (agB l t = true) := Lib.hid (agB_true (fun i h1 h2 => hall.out i h1 (by rw [HL.out] at h2; omega)))
        go_wp2
        go_ret
        exact ⟨ret_bool HR.out.symm, hb.out⟩

/-- The error of Combine. -/
def ckE (l : List (Int × List UInt8)) (t : Int) : Int := if shB l && vT t then (if (l.length : Int) < t then 10 else if agB l t.toNat then 0 else 13) else 1
def ChkI (r : Int) (w : World) (e : Ending) (w' : World) : Prop := e = .returned (.int .i64 r) ∧ Below w.heap.size w w'

set_option maxRecDepth 100000 in
set_option maxHeartbeats 1000000 in
theorem check_any (A : Option Addr) (n c : Nat) (t : Int) (l : List (Int × List UInt8)) (w : World) (h : SS w A n c l) :
    Calls Try.prog 53 #[.slice A n c, .int .i64 t] w (ChkI (ckE l t) w) := by
  have hn := h.len_le
  have HL := Lib.hid h.1
  have H := Lib.hid h
  clear h
  cases hs : shB l with
  | false =>
    have HR : Hid (ckE l t = 1) := Lib.hid (by unfold ckE; rw [hs]; rfl)
    go_enter Try.func53, Try.ntmps53
    go_wp2_with fail
    refine (validShares_any _ _ _ _ _ H.out).mono ?_
    rintro e w1 ⟨rfl, hb1⟩
    have HB1 := Lib.hid hb1
    clear hb1
    rw [hs]
    go_wp2_with fail
    go_ret
    exact ⟨ret_int HR.out.symm, HB1.out⟩
  | true =>
    obtain ⟨s1, s2, s3, s4, s5⟩ := shB_spec hs
    have S2 := Lib.hid s2
    have S4 := Lib.hid s4
    clear s2 s3 s4 s5
    cases hv : vT t with
    | false =>
      have HR : Hid (ckE l t = 1) := Lib.hid (by unfold ckE; rw [hs, hv]; rfl)
      go_enter Try.func53, Try.ntmps53
      go_wp2_with fail
      refine (validShares_any _ _ _ _ _ H.out).mono ?_
      rintro e w1 ⟨rfl, hb1⟩
      have HB1 := Lib.hid hb1
      clear hb1
      rw [hs]
      go_wp2_with fail
      refine (validT_any _ _).mono ?_
      rintro e w' ⟨rfl, rfl⟩
      rw [hv]
      go_wp2_with fail
      go_ret
      exact ⟨ret_int HR.out.symm, HB1.out⟩
    | true =>
      obtain ⟨t1, t2⟩ := vT_iff.1 hv
      obtain ⟨t, rfl⟩ : ∃ k : Nat, t = (k : Int) := ⟨t.toNat, by omega⟩
      by_cases hnt : n < t
      · have HR : Hid (ckE l t = 10) := Lib.hid (by unfold ckE; rw [hs, hv, HL.out]; simp; omega)
        have q : decide ((n : Int) < (t : Int)) = true := by simp; omega
        have q' : decide (n < t) = true := by simp; omega
        go_enter Try.func53, Try.ntmps53
        go_wp2_with fail
        refine (validShares_any _ _ _ _ _ H.out).mono ?_
        rintro e w1 ⟨rfl, hb1⟩
        have HB1 := Lib.hid hb1
        clear hb1
        rw [hs]
        go_wp2_with fail
        refine (validT_any _ _).mono ?_
        rintro e w' ⟨rfl, rfl⟩
        rw [hv]
        go_wp2_with fail
        go_ret
        exact ⟨ret_int HR.out.symm, HB1.out⟩
      · have HR : Hid (ckE l t = if agB l t then 0 else 13) := Lib.hid (by unfold ckE; rw [hs, hv, HL.out]; simp; omega)
        have q : decide ((n : Int) < (t : Int)) = false := by simp; omega
        have q' : decide (n < t) = false := by simp; omega
        go_enter Try.func53, Try.ntmps53
        go_wp2_with fail
        refine (validShares_any _ _ _ _ _ H.out).mono ?_
        rintro e w1 ⟨rfl, hb1⟩
        have HB1 := Lib.hid hb1
        have H1 := Lib.hid (H.out.kept hb1)
        clear hb1
        rw [hs]
        go_wp2_with fail
        refine (validT_any _ _).mono ?_
        rintro e w' ⟨rfl, rfl⟩
        rw [hv]
        go_wp2_with fail
        refine (agree_any _ n c _ t l _ H1.out (by omega) S2.out (fun k hk => S4.out k (by rw [HL.out]; exact hk)) (by omega)).mono ?_
        rintro e w2 ⟨rfl, hb2⟩
        have HB2 := Lib.hid (below_then HB1.out hb2)
        clear hb2
        cases hag : agB l t with
        | true =>
          have HR' : Hid (ckE l t = 0) := Lib.hid (by rw [HR.out, hag]; rfl)
          clear HR
          go_wp2_with fail
          go_ret
          exact ⟨ret_int HR'.out.symm, HB2.out⟩
        | false =>
          have HR' : Hid (ckE l t = 13) := Lib.hid (by rw [HR.out, hag]; rfl)
          clear HR
          go_wp2_with fail
          go_ret
          exact ⟨ret_int HR'.out.symm, HB2.out⟩
end Go.Proofs.Ytakedococfklgaa
/- Contracts of shamir.Combine, Extend, Check. -/
namespace Go.Proofs.Ytakedococfklgaa
open Go.RowKit Gf

theorem ckE_ok {l : List (Int × List UInt8)} {t : Int} (h : ckE l t = 0) : shB l = true ∧ 1 ≤ t ∧ t ≤ 16 ∧ t ≤ l.length ∧ agB l t.toNat = true := by
  unfold ckE at h
  split at h
  · rename_i h1
    rw [Bool.and_eq_true] at h1
    obtain ⟨h2, h3⟩ := h1
    have := vT_iff.1 h3
    split at h
    · exact absurd h (by decide)
    · split at h
      · rename_i h4 h5
        exact ⟨h2, this.1, this.2, by omega, h5⟩
      · exact absurd h (by decide)
  · exact absurd h (by decide)
/-- The bytes that Combine returns. -/
def cbL (l : List (Int × List UInt8)) (t : Int) (x : UInt8) : List UInt8 := if ckE l t = 0 then vlA (l.take t.toNat) x else []
def CmbRet (l : List UInt8) (r : Int) (w : World) (e : Ending) (w' : World) : Prop := ∃ v, e = .returned (.tuple #[v, .int .i64 r]) ∧ GvB l w v w'

set_option maxRecDepth 100000 in
set_option maxHeartbeats 1000000 in
theorem combine_any (A : Option Addr) (n c : Nat) (t : Int) (l : List (Int × List UInt8)) (w : World) (h : SS w A n c l) :
    Calls Try.prog 26 #[.slice A n c, .int .i64 t] w (CmbRet (cbL l t 0) (ckE l t) w) := by
  have hn := h.len_le
  have hnc := h.2.1
  have HL := Lib.hid h.1
  have H := Lib.hid h
  clear h
  by_cases hck : ckE l t = 0
  · obtain ⟨c1, c2, c3, c4, c5⟩ := ckE_ok hck
    obtain ⟨s1, s2, s3, s4, s5⟩ := shB_spec c1
    obtain ⟨t, rfl⟩ : ∃ k : Nat, t = (k : Int) := ⟨t.toNat, by omega⟩
    have htn : t ≤ n := by rw [HL.out] at c4; omega
    have S2 := Lib.hid s2
    have S4 := Lib.hid s4
    have HR : Hid (cbL l t 0 = vlA (l.take t) 0) := Lib.hid (by unfold cbL; rw [if_pos hck]; rfl)
    have HC := Lib.hid hck
    have hlen : Hid ((l.take t).length = t) := Lib.hid (by rw [List.length_take, HL.out]; omega)
    have htc : t ≤ c := by omega
    clear hck c1 c4 c5 s2 s3 s4 s5
    go_enter Try.func26, Try.ntmps26
    go_wp2_with fail
    refine (check_any _ _ _ _ _ _ H.out).mono ?_
    rintro e w1 ⟨rfl, hb1⟩
    have HB1 := Lib.hid hb1
    have H1 := Lib.hid ((H.out.kept hb1).take htn)
    clear hb1
    rw [HC.out]
    go_wp2_with fail
    refine (valueAt_any A t c _ (l.take t) 0 w1 H1.out (by omega) (fun j hj => by rw [hlen.out] at hj; rw [gS_take hj]; exact S2.out j (by rw [HL.out]; omega)) (fun j hj => by rw [gS_take hj]; have := S4.out j (by rw [HL.out]; omega); omega)).mono ?_
    rintro e w2 ⟨v2, rfl, A2, n2, c2', rfl, h21, h22, h23⟩
    have HG : Hid (GvB (cbL l t 0) w (.slice A2 n2 c2') w2) := Lib.hid (by rw [HR.out]; exact ⟨_, _, _, rfl, h21, (fun a e => Nat.le_trans HB1.out.size (h22 a e)), below_then HB1.out h23⟩)
    clear h21 h22 h23
    go_wp2_with fail
    go_ret2
    exact ⟨_, by rw [HC.out]; rfl, HG.out⟩
  · have HR : Hid (cbL l t 0 = []) := Lib.hid (by unfold cbL; rw [if_neg hck])
    obtain ⟨r, hr⟩ : ∃ r, r = ckE l t := ⟨_, rfl⟩
    have q : (r != 0) = true := by rw [hr]; simpa using hck
    have HRR := Lib.hid hr
    clear hck hr
    go_enter Try.func26, Try.ntmps26
    go_wp2_with fail
    refine (check_any _ _ _ _ _ _ H.out).mono ?_
    rintro e w1 ⟨rfl, hb1⟩
    have HG : Hid (GvB (cbL l t 0) w (.slice none 0 0) w1) := Lib.hid (by rw [HR.out]; exact ⟨none, 0, 0, rfl, BS.nil, (fun _ h => by cases h), hb1⟩)
    clear hb1
    rw [← HRR.out]
    go_wp2_with fail
    go_ret2
    exact ⟨_, by rw [← HRR.out]; rfl, HG.out⟩

/-- What Extend returns. -/
def exE (l : List (Int × List UInt8)) (t x : Int) : Int := if vX x then ckE l t else 1
def exX (l : List (Int × List UInt8)) (t x : Int) : Int := if exE l t x = 0 then x else 0
def exL (l : List (Int × List UInt8)) (t x : Int) : List UInt8 := if exE l t x = 0 then vlA (l.take t.toNat) (UInt8.ofNat x.toNat) else []
def ExRet (x : Int) (l : List UInt8) (r : Int) (w : World) (e : Ending) (w' : World) : Prop := ∃ A n c, e = .returned (.tuple #[.agg #[.int .i64 x, .slice A n c], .int .i64 r]) ∧ BS w' A n c l ∧ AtB A (w.heap.size ≤ ·) ∧ Below w.heap.size w w'

set_option maxRecDepth 100000 in
set_option maxHeartbeats 1000000 in
theorem extend_any (A : Option Addr) (n c : Nat) (t x : Int) (l : List (Int × List UInt8)) (w : World) (h : SS w A n c l) :
    Calls Try.prog 27 #[.slice A n c, .int .i64 t, .int .i64 x] w (ExRet (exX l t x) (exL l t x) (exE l t x) w) := by
  have hn := h.len_le
  have hnc := h.2.1
  have HL := Lib.hid h.1
  have H := Lib.hid h
  clear h
  cases hv : vX x with
  | false =>
    have HE : Hid (exE l t x = 1) := Lib.hid (by unfold exE; rw [hv]; rfl)
    have HX : Hid (exX l t x = 0) := Lib.hid (by unfold exX; rw [HE.out]; rfl)
    have HLL : Hid (exL l t x = []) := Lib.hid (by unfold exL; rw [HE.out]; rfl)
    go_enter Try.func27, Try.ntmps27
    go_wp2_with fail
    refine (validX_any _ _).mono ?_
    rintro e w' ⟨rfl, rfl⟩
    rw [hv]
    go_wp2_with fail
    refine bodyPost_ret (v := .tuple #[.agg #[.int .i64 0, .slice none 0 0], .int .i64 1]) (by simp [results, Try.results27, go_sem]) rfl ?_
    rw [HE.out, HX.out, HLL.out]
    exact ⟨none, 0, 0, rfl, BS.nil, (fun _ h => by cases h), (Below.refl _ _).alloc (Nat.le_refl _) _⟩
  | true =>
    obtain ⟨x1, x2⟩ := vX_iff.1 hv
    have HE : Hid (exE l t x = ckE l t) := Lib.hid (by unfold exE; rw [hv]; rfl)
    have HAA := Lib.hid (H.out.kept ((Below.refl _ w).alloc (Nat.le_refl _) (.cells #[.int .i64 0, .slice none 0 0] 33)))
    have HBA : Hid (Below w.heap.size w (w.alloc (.cells #[.int .i64 0, .slice none 0 0] 33))) := Lib.hid ((Below.refl _ w).alloc (Nat.le_refl _) _)
    have HBK := Lib.hid (Blk.new w 33 #[.int .i64 0, .slice none 0 0])
    by_cases hck : ckE l t = 0
    · obtain ⟨c1, c2, c3, c4, c5⟩ := ckE_ok hck
      obtain ⟨s1, s2, s3, s4, s5⟩ := shB_spec c1
      obtain ⟨t, rfl⟩ : ∃ k : Nat, t = (k : Int) := ⟨t.toNat, by omega⟩
      have htn : t ≤ n := by rw [HL.out] at c4; omega
      have S2 := Lib.hid s2
      have S4 := Lib.hid s4
      have HX : Hid (exX l t x = x) := Lib.hid (by unfold exX; rw [HE.out, if_pos hck])
      have HLL : Hid (exL l t x = vlA (l.take t) (UInt8.ofNat x.toNat)) := Lib.hid (by unfold exL; rw [HE.out, if_pos hck]; rfl)
      have HC := Lib.hid hck
      have hlen : Hid ((l.take t).length = t) := Lib.hid (by rw [List.length_take, HL.out]; omega)
      have htc : t ≤ c := by omega
      have HBV : Hid (bv (UInt8.ofNat x.toNat) = x) := Lib.hid (bv_ofNat x (by omega) (by omega))
      clear hck c1 c4 c5 s2 s3 s4 s5
      go_enter Try.func27, Try.ntmps27
      go_wp2_with fail
      refine (validX_any _ _).mono ?_
      rintro e w' ⟨rfl, rfl⟩
      rw [hv]
      go_wp2_with fail
      refine (check_any _ _ _ _ _ _ HAA.out).mono ?_
      rintro e w1 ⟨rfl, hb1⟩
      have HB1 := Lib.hid (below_then HBA.out hb1)
      have H1 := Lib.hid ((HAA.out.kept hb1).take htn)
      have HK1 := Lib.hid (HBK.out.kept hb1)
      clear hb1
      rw [HC.out]
      go_wp2_with fail
      have hval := valueAt_any A t c _ (l.take t) (UInt8.ofNat x.toNat) w1 H1.out (by omega) (fun j hj => by rw [hlen.out] at hj; rw [gS_take hj]; exact S2.out j (by rw [HL.out]; omega)) (fun j hj => by rw [gS_take hj]; have := S4.out j (by rw [HL.out]; omega); omega)
      rw [HBV.out] at hval
      refine hval.mono ?_
      clear hval
      rintro e w2 ⟨v2, rfl, A2, n2, c2', rfl, h21, h22, h23⟩
      have HK2 := HK1.out.kept h23
      have d1 : w2.cell? ⟨w.heap.size, 0, none⟩ = some (.int .i64 0) := by rw [HK2.cell]; rfl
      have d2 : w2.cell? ⟨w.heap.size, 1, none⟩ = some (.slice none 0 0) := by rw [HK2.cell]; rfl
      have d3 := HK2.frozen 0
      have d4 := HK2.frozen 1
      have H21 := Lib.hid h21
      have H22 := Lib.hid h22
      have HB2 := Lib.hid (below_then HB1.out h23)
      have HKK := Lib.hid HK2
      clear h21 h22 h23 HK2
      go_wp2_with fail
      have K1 := (HKK.out.set_ 0 (.int .i64 x)).set_ 1 (.slice A2 n2 c2')
      have d5 : ((w2.setCell ⟨w.heap.size, 0, none⟩ (.int .i64 x)).setCell ⟨w.heap.size, 1, none⟩ (.slice A2 n2 c2')).cell? ⟨w.heap.size, 0, none⟩ = some (.int .i64 x) := by rw [K1.cell]; rfl
      have d6 : ((w2.setCell ⟨w.heap.size, 0, none⟩ (.int .i64 x)).setCell ⟨w.heap.size, 1, none⟩ (.slice A2 n2 c2')).cell? ⟨w.heap.size, 1, none⟩ = some (.slice A2 n2 c2') := by rw [K1.cell]; rfl
      have hfar : ∀ g o, A2 = some ⟨g, o, none⟩ → g ≠ w.heap.size := fun g o e => by
        have h1 := H22.out ⟨g, o, none⟩ e
        have h2 := HK1.out.lt
        intro h3
        have h4 : w1.heap.size ≤ g := h1
        omega
      refine bodyPost_ret (v := .tuple #[.agg #[.int .i64 x, .slice A2 n2 c2'], .int .i64 0]) (by simp [results, Try.results27, go_sem, d5, d6]) rfl ?_
      rw [HE.out, HX.out, HLL.out, HC.out]
      exact ⟨A2, n2, c2', rfl, (H21.out.far hfar _).far hfar _, (fun a e => Nat.le_trans HB1.out.size (H22.out a e)), (HB2.out.setCell (Nat.le_refl _) _).setCell (Nat.le_refl _) _⟩
    · obtain ⟨r, hr⟩ : ∃ r, r = ckE l t := ⟨_, rfl⟩
      have q : (r != 0) = true := by rw [hr]; simpa using hck
      have HX : Hid (exX l t x = 0) := Lib.hid (by unfold exX; rw [HE.out, if_neg hck])
      have HLL : Hid (exL l t x = []) := Lib.hid (by unfold exL; rw [HE.out, if_neg hck])
      have HRR := Lib.hid hr
      clear hck hr
      go_enter Try.func27, Try.ntmps27
      go_wp2_with fail
      refine (validX_any _ _).mono ?_
      rintro e w' ⟨rfl, rfl⟩
      rw [hv]
      go_wp2_with fail
      refine (check_any _ _ _ _ _ _ HAA.out).mono ?_
      rintro e w1 ⟨rfl, hb1⟩
      have HB1 := Lib.hid (below_then HBA.out hb1)
      have HK2 := HBK.out.kept hb1
      have d1 : w1.cell? ⟨w.heap.size, 0, none⟩ = some (.int .i64 0) := by rw [HK2.cell]; rfl
      have d2 : w1.cell? ⟨w.heap.size, 1, none⟩ = some (.slice none 0 0) := by rw [HK2.cell]; rfl
      have d3 := HK2.frozen 0
      have d4 := HK2.frozen 1
      have HKK := Lib.hid HK2
      clear hb1 HK2
      rw [← HRR.out]
      go_wp2_with fail
      have K1 := (HKK.out.set_ 0 (.int .i64 0)).set_ 1 (.slice none 0 0)
      have d5 : ((w1.setCell ⟨w.heap.size, 0, none⟩ (.int .i64 0)).setCell ⟨w.heap.size, 1, none⟩ (.slice none 0 0)).cell? ⟨w.heap.size, 0, none⟩ = some (.int .i64 0) := by rw [K1.cell]; rfl
      have d6 : ((w1.setCell ⟨w.heap.size, 0, none⟩ (.int .i64 0)).setCell ⟨w.heap.size, 1, none⟩ (.slice none 0 0)).cell? ⟨w.heap.size, 1, none⟩ = some (.slice none 0 0) := by rw [K1.cell]; rfl
      refine bodyPost_ret (v := .tuple #[.agg #[.int .i64 0, .slice none 0 0], .int .i64 r]) (by simp [results, Try.results27, go_sem, d5, d6]) rfl ?_
      rw [HE.out, HX.out, HLL.out, ← HRR.out]
      exact ⟨none, 0, 0, rfl, BS.nil, (fun _ h => by cases h), (HB1.out.setCell (Nat.le_refl _) _).setCell (Nat.le_refl _) _⟩

/-- What Check returns. -/
def chE (l : List (Int × List UInt8)) (t : Int) : Int := if shB l && vT t then 0 else 1
def chB (l : List (Int × List UInt8)) (t : Int) : Bool := shB l && vT t && agB l t.toNat
set_option maxRecDepth 100000 in
set_option maxHeartbeats 1000000 in
theorem check2_any (A : Option Addr) (n c : Nat) (t : Int) (l : List (Int × List UInt8)) (w : World) (h : SS w A n c l) :
    Calls Try.prog 28 #[.slice A n c, .int .i64 t] w fun e w' => e = .returned (.tuple #[.bool (chB l t), .int .i64 (chE l t)]) ∧ Below w.heap.size w w' := by
  have hn := h.len_le
  have HL := Lib.hid h.1
  have H := Lib.hid h
  clear h
  cases hs : shB l with
  | false =>
    have HE : Hid (chE l t = 1) := Lib.hid (by unfold chE; rw [hs]; rfl)
    have HB : Hid (chB l t = false) := Lib.hid (by unfold chB; rw [hs]; rfl)
    go_enter Try.func28, Try.ntmps28
    go_wp2_with fail
    refine (validShares_any _ _ _ _ _ H.out).mono ?_
    rintro e w1 ⟨rfl, hb1⟩
    have HB1 := Lib.hid hb1
    clear hb1
    rw [hs]
    go_wp2_with fail
    go_ret2
    exact ⟨by rw [HE.out, HB.out]; rfl, HB1.out⟩
  | true =>
    obtain ⟨s1, s2, s3, s4, s5⟩ := shB_spec hs
    have S2 := Lib.hid s2
    have S4 := Lib.hid s4
    clear s2 s3 s4 s5
    cases hv : vT t with
    | false =>
      have HE : Hid (chE l t = 1) := Lib.hid (by unfold chE; rw [hs, hv]; rfl)
      have HB : Hid (chB l t = false) := Lib.hid (by unfold chB; rw [hs, hv]; rfl)
      go_enter Try.func28, Try.ntmps28
      go_wp2_with fail
      refine (validShares_any _ _ _ _ _ H.out).mono ?_
      rintro e w1 ⟨rfl, hb1⟩
      have HB1 := Lib.hid hb1
      clear hb1
      rw [hs]
      go_wp2_with fail
      refine (validT_any _ _).mono ?_
      rintro e w' ⟨rfl, rfl⟩
      rw [hv]
      go_wp2_with fail
      go_ret2
      exact ⟨by rw [HE.out, HB.out]; rfl, HB1.out⟩
    | true =>
      obtain ⟨t1, t2⟩ := vT_iff.1 hv
      obtain ⟨t, rfl⟩ : ∃ k : Nat, t = (k : Int) := ⟨t.toNat, by omega⟩
      have HE : Hid (chE l t = 0) := Lib.hid (by unfold chE; rw [hs, hv]; rfl)
      have HB : Hid (chB l t = agB l t) := Lib.hid (by unfold chB; rw [hs, hv]; rfl)
      go_enter Try.func28, Try.ntmps28
      go_wp2_with fail
      refine (validShares_any _ _ _ _ _ H.out).mono ?_
      rintro e w1 ⟨rfl, hb1⟩
      have HB1 := Lib.hid hb1
      have H1 := Lib.hid (H.out.kept hb1)
      clear hb1
      rw [hs]
      go_wp2_with fail
      refine (validT_any _ _).mono ?_
      rintro e w' ⟨rfl, rfl⟩
      rw [hv]
      go_wp2_with fail
      refine (agree_any _ n c _ t l _ H1.out (by omega) S2.out (fun k hk => S4.out k (by rw [HL.out]; exact hk)) (by omega)).mono ?_
      rintro e w2 ⟨rfl, hb2⟩
      have HB2 := Lib.hid (below_then HB1.out hb2)
      clear hb2
      go_wp2_with fail
      go_ret2
      exact ⟨by rw [HE.out, HB.out]; rfl, HB2.out⟩
end Go.Proofs.Ytakedococfklgaa
