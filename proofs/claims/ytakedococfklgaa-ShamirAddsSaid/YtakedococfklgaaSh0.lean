/- Slices of shares: what they read as; contracts of shamir.validX, validThreshold, validXs, validShares, validLists. -/
import Derived.Test.YtakedococfklgaaPo5
namespace Go.Proofs.Ytakedococfklgaa
open Go.RowKit Gf

attribute [local go_sem] Gf.xor_bits Gf.and_bits Gf.or_bits Gf.ne_zero_iff Gf.eq_zero_iff Gf.eq_one_iff Gf.beq_bytes Gf.bne_bytes Gf.bv_toNat

/-- Share k: its X and its Data. -/
def gS (l : List (Int × List UInt8)) (k : Nat) : Int × List UInt8 := l.getD k (0, [])
theorem gS_eq {l : List (Int × List UInt8)} {k : Nat} (h : k < l.length) : gS l k = l[k] := by simp [gS, List.getD, List.getElem?_eq_getElem h]
/-- Shares. -/
def SS (w : World) (A : Option Addr) (n c : Nat) (l : List (Int × List UInt8)) : Prop :=
  l.length = n ∧ n ≤ c ∧ n * 32 ≤ lim ∧ ∀ k, k < n → ∃ g o A' n' c', A = some ⟨g, o, none⟩ ∧ w.cell? ⟨g, o + k * 2, none⟩ = some (.int .i64 (gS l k).1) ∧ w.cell? ⟨g, o + k * 2 + 1, none⟩ = some (.slice A' n' c') ∧ BS w A' n' c' (gS l k).2
section
variable {w w' : World} {A : Option Addr} {n c : Nat} {l : List (Int × List UInt8)}
theorem SS.kept (h : SS w A n c l) (hb : Below w.heap.size w w') : SS w' A n c l :=
  ⟨h.1, h.2.1, h.2.2.1, fun k hk => let ⟨g, o, A', n', c', e, h1, h2, h3⟩ := h.2.2.2 k hk; ⟨g, o, A', n', c', e, cell_kept hb h1, cell_kept hb h2, h3.kept hb⟩⟩
theorem SS.drew (h : SS w A n c l) : SS w.drew A n c l := h
theorem SS.drewN (h : SS w A n c l) (k : Nat) : SS (w.drewN k) A n c l := h
theorem SS.len_le (h : SS w A n c l) : n * 32 ≤ 140737488355328 := by have := h.2.2.1; unfold lim at this; omega
theorem SS.at_ (h : SS w A n c l) (hb : Below w.heap.size w w') {k : Nat} (hk : k < n) : ∃ g o A' n' c', A = some ⟨g, o, none⟩ ∧ w'.cell? ⟨g, o + k * 2, none⟩ = some (.int .i64 (gS l k).1) ∧ w'.cell? ⟨g, o + k * 2 + 1, none⟩ = some (.slice A' n' c') ∧ BS w' A' n' c' (gS l k).2 := (h.kept hb).2.2.2 k hk
theorem SS.nil : SS w none 0 0 [] := ⟨rfl, Nat.le_refl _, by decide, fun k hk => absurd hk (by omega)⟩
theorem SS.take (h : SS w A n c l) {m : Nat} (hm : m ≤ n) : SS w A m c (l.take m) :=
  ⟨by rw [List.length_take, h.1]; omega, by have := h.2.1; omega, by have := h.2.2.1; omega, fun k hk => by
    have := h.2.2.2 k (by omega)
    have e : gS (l.take m) k = gS l k := by simp [gS, List.getD, hk]
    rw [e]; exact this⟩
end

def vX (x : Int) : Bool := decide (1 ≤ x ∧ x ≤ 255)
theorem vX_iff {x : Int} : vX x = true ↔ 1 ≤ x ∧ x ≤ 255 := by simp [vX]
def vT (x : Int) : Bool := decide (1 ≤ x ∧ x ≤ 16)
theorem vT_iff {x : Int} : vT x = true ↔ 1 ≤ x ∧ x ≤ 16 := by simp [vT]
theorem ret_bool {a b : Bool} (h : a = b) : Ending.returned (.bool a) = .returned (.bool b) := by rw [h]

set_option maxHeartbeats 400000 in
theorem validX_any (x : Int) (w : World) : Calls Try.prog 55 #[.int .i64 x] w fun e w' => e = .returned (.bool (vX x)) ∧ w = w' := by
  by_cases h1 : 1 ≤ x
  · have HV : Hid (vX x = decide (x ≤ 255)) := Lib.hid (by simp [vX, h1])
    go_enter Try.func55, Try.ntmps55
    go_wp2
    go_ret
    exact ⟨ret_bool (by rw [HV.out]), rfl⟩
  · have HV : Hid (vX x = false) := Lib.hid (by simp [vX, h1])
    have q : decide (1 ≤ x) = false := by simpa using h1
    go_enter Try.func55, Try.ntmps55
    go_wp2
    go_ret
    exact ⟨ret_bool HV.out.symm, rfl⟩
set_option maxHeartbeats 400000 in
theorem validT_any (x : Int) (w : World) : Calls Try.prog 46 #[.int .i64 x] w fun e w' => e = .returned (.bool (vT x)) ∧ w = w' := by
  by_cases h1 : 1 ≤ x
  · have HV : Hid (vT x = decide (x ≤ 16)) := Lib.hid (by simp [vT, h1])
    go_enter Try.func46, Try.ntmps46
    go_wp2
    go_ret
    exact ⟨ret_bool (by rw [HV.out]), rfl⟩
  · have HV : Hid (vT x = false) := Lib.hid (by simp [vT, h1])
    have q : decide (1 ≤ x) = false := by simpa using h1
    go_enter Try.func46, Try.ntmps46
    go_wp2
    go_ret
    exact ⟨ret_bool HV.out.symm, rfl⟩

/-- Number k is an element from 1 to 255 and none of the earlier ones. -/
def xOk (z : List Int) (k : Nat) : Bool := vX (gI z k) && !((List.range k).any fun j => gI z j == gI z k)
def xsB (z : List Int) : Bool := decide (z.length ≤ 64) && (List.range z.length).all (xOk z)
theorem xsB_true {z : List Int} (hl : z.length ≤ 64) (h : ∀ i, i < z.length → xOk z i = true) : xsB z = true := by
  unfold xsB; rw [Bool.and_eq_true, List.all_eq_true]; exact ⟨by simpa using hl, fun i hi => h i (List.mem_range.1 hi)⟩
theorem xsB_false {z : List Int} {i : Nat} (hi : i < z.length) (h : xOk z i = false) : xsB z = false := by
  unfold xsB
  have : (List.range z.length).all (xOk z) = false := by rw [List.all_eq_false]; exact ⟨i, List.mem_range.2 hi, by simp [h]⟩
  rw [this, Bool.and_false]
theorem xsB_long {z : List Int} (h : 64 < z.length) : xsB z = false := by
  unfold xsB; rw [show decide (z.length ≤ 64) = false by simpa using h]; rfl
theorem xsB_spec {z : List Int} (h : xsB z = true) : z.length ≤ 64 ∧ (∀ i, i < z.length → 1 ≤ gI z i ∧ gI z i ≤ 255) ∧ ∀ i j, j < i → i < z.length → gI z j ≠ gI z i := by
  unfold xsB at h; rw [Bool.and_eq_true, List.all_eq_true] at h
  refine ⟨by simpa using h.1, fun i hi => ?_, fun i j hj hi => ?_⟩
  · have := h.2 i (List.mem_range.2 hi); simp [xOk] at this; exact vX_iff.1 this.1
  · have := h.2 i (List.mem_range.2 hi); simp [xOk] at this; exact this.2 j hj

def ChkB (r : Bool) (w : World) (e : Ending) (w' : World) : Prop := e = .returned (.bool r) ∧ Below w.heap.size w w'

set_option maxRecDepth 100000 in
set_option maxHeartbeats 1000000 in
theorem validXs_any (A : Option Addr) (n c : Nat) (z : List Int) (w : World) (h : IS w A n c z) :
    Calls Try.prog 41 #[.slice A n c] w (ChkB (xsB z) w) := by
  have hn := h.len_le
  have HL := Lib.hid h.1
  have H := Lib.hid h
  clear h
  by_cases hbig : 64 < n
  · have q : decide ((64 : Int) < (n : Int)) = true := by simp; omega
    have HR : Hid (xsB z = false) := Lib.hid (xsB_long (by rw [HL.out]; exact hbig))
    go_enter Try.func41, Try.ntmps41
    go_wp2
    go_ret
    exact ⟨ret_bool HR.out.symm, Below.refl _ _⟩
  · have q : decide ((64 : Int) < (n : Int)) = false := by simp; omega
    go_enter Try.func41, Try.ntmps41
    go_wp2
    go_loopw [11] (fun i wr => ∃ k : Nat, k ≤ n ∧ i = .int .i64 (k : Int) ∧ Hid (∀ j, j < k → xOk z j = true) ∧ Hid (Blk wr w.heap.size 48 (sA (fun j => (gI z j).toNat) k)) ∧ Hid (Below w.heap.size w wr)) (fun i _ => n - (intOf i).toNat)
    case atStart =>
      refine ⟨0, by omega, rfl, Lib.hid (fun j hj => absurd hj (by omega)), Lib.hid ?_, Lib.hid ((Below.refl _ _).alloc (Nat.le_refl _) _)⟩
      rw [← sA_zero]
      exact Blk.new w _ _
    case round =>
      obtain ⟨k, hk, rfl, hall, hs, hb⟩ := hrel
      by_cases hlt : k < n
      · obtain ⟨g, o, rfl, hc⟩ := H.out.at_ hb.out hlt
        cases hv : vX (gI z k) with
        | false =>
          have HF : Hid (xsB z = false) := Lib.hid (xsB_false (i := k) (by rw [HL.out]; exact hlt) (by unfold xOk; rw [hv]; rfl))
          go_wp2_with (go_at_call 55; refine (validX_any _ _).mono ?_; rintro e w' ⟨rfl, rfl⟩; rw [hv])
          go_ret
          exact ⟨ret_bool HF.out.symm, hb.out⟩
        | true =>
          obtain ⟨x1, x2⟩ := vX_iff.1 hv
          obtain ⟨y, hy⟩ : ∃ y : Nat, gI z k = (y : Int) := ⟨(gI z k).toNat, by omega⟩
          rw [hy] at hc hv x1 x2
          have hy3 : (y : Int) < 256 := by omega
          have h1 := hs.out.cell y
          rw [sA_get _ _ _ (by omega)] at h1
          have h2 := hs.out.frozen y
          have HY := Lib.hid hy
          cases hsb : sN (fun j => (gI z j).toNat) k y with
          | true =>
            rw [hsb] at h1
            have HF : Hid (xsB z = false) := Lib.hid (xsB_false (i := k) (by rw [HL.out]; exact hlt) (by
              obtain ⟨j, j1, j2⟩ := sN_true hsb
              have h3 : 1 ≤ gI z j := by
                have := hall.out j j1
                unfold xOk at this
                rw [Bool.and_eq_true] at this
                exact (vX_iff.1 this.1).1
              unfold xOk
              have : ((List.range k).any fun j => gI z j == gI z k) = true := by
                rw [List.any_eq_true]
                exact ⟨j, List.mem_range.2 j1, by simp only [hy, beq_iff_eq]; omega⟩
              rw [this]; simp))
            clear hsb hy
            go_wp2_with (go_at_call 55; refine (validX_any _ _).mono ?_; rintro e w' ⟨rfl, rfl⟩; rw [hv])
            go_ret
            exact ⟨ret_bool HF.out.symm, hb.out⟩
          | false =>
            rw [hsb] at h1
            have HA : Hid (∀ j, j < k + 1 → xOk z j = true) := Lib.hid (fun j hj => by
              by_cases e : j = k
              · subst e
                unfold xOk
                have : ((List.range j).any fun i => gI z i == gI z j) = false := by
                  rw [List.any_eq_false]
                  intro i hi he
                  unfold sN at hsb
                  rw [List.any_eq_false] at hsb
                  refine hsb i hi ?_
                  simp only [beq_iff_eq] at he ⊢
                  rw [he, hy]
                  rfl
                rw [this, hy, hv]; rfl
              · exact hall.out j (by omega))
            have HS : Hid (Blk (wr.setCell ⟨w.heap.size, y, none⟩ (.bool true)) w.heap.size 48 (sA (fun j => (gI z j).toNat) (k + 1))) := Lib.hid (by
              have := hs.out.set_ (gI z k).toNat (.bool true)
              rw [sA_set (fun j => (gI z j).toNat) k, hy] at this
              exact this)
            clear hsb hy
            go_wp2_with (go_at_call 55; refine (validX_any _ _).mono ?_; rintro e w' ⟨rfl, rfl⟩; rw [hv])
            go_roundw
            case rel => exact ⟨k + 1, by omega, by go_num, HA, HS, Lib.hid (hb.out.setCell (Nat.le_refl _) _)⟩
            case measure => simp [intOf]; omega
      · have HT : Hid (xsB z = true) := Lib.hid (xsB_true (by rw [HL.out]; omega) (fun i hi => hall.out i (by rw [HL.out] at hi; omega)))
        go_wp2
        go_ret
        exact ⟨ret_bool HT.out.symm, hb.out⟩
end Go.Proofs.Ytakedococfklgaa
