/- The reference's Decode, plainly: it gives a proposal just where the program's decoder does. -/
import Derived.Test.YtfonbliomokffaaGreatTmm
namespace Go.Proofs.YtfonbliomokffaaGreat
open Go Gf

/-- The reference's devices: k numbers up to 12. -/
def wsS (b : List UInt8) : Nat → Option (List Int × List UInt8)
 | 0 => some ([], b)
 | k + 1 => match wsS b k with
  | some x => if (takeS x.2 12).2.2 then some (x.1 ++ [((takeS x.2 12).1 : Int)], (takeS x.2 12).2.1) else none
  | none => none
/-- k sums. -/
def ssS (b : List UInt8) (k : Nat) : List (List UInt8) := (List.range k).map fun i => (b.drop (32 * i)).take 32
def d1S (b : List UInt8) : Nat × List UInt8 × Bool := takeS b 11
def d2S (b : List UInt8) : Nat × List UInt8 × Bool := takeS (d1S b).2.1 3
def d3S (b : List UInt8) : Option (List Int × List UInt8) := wsS (d2S b).2.1 (d2S b).1
/-- The reference's Decode. -/
def drecS (x : En) : Option Pp :=
 if (d1S x.body).2.2 then
  if (d2S x.body).2.2 then
   match d3S x.body with
   | none => none
   | some y =>
    if (takeS y.2 1024).2.2 = true ∧ (takeS y.2 1024).2.1.length = 32 * (takeS y.2 1024).1 then
     if validB ⟨x.dev, x.seq, ((d1S x.body).1 : Int), y.1, ssS (takeS y.2 1024).2.1 (takeS y.2 1024).1⟩ = true then
      some ⟨x.dev, x.seq, ((d1S x.body).1 : Int), y.1, ssS (takeS y.2 1024).2.1 (takeS y.2 1024).1⟩
     else none
    else none
  else none
 else none
theorem rU_ok {b : List UInt8} {m : Nat} {s : Rd} (h : (rU m b s).2.err = 0) : ∃ v k, s.err = 0 ∧ num (b.drop s.off) = some (v, k) ∧ v ≤ m ∧ rU m b s = (v, ⟨s.off + k, s.off, 0⟩) := by
 have h0 : s.err = 0 := Decidable.byContradiction fun hc => rU_err (m := m) (b := b) hc h
 cases hn : num (b.drop s.off) with
 | none =>
  exfalso
  have hu : uD (b.drop s.off) = .error 3 := by unfold uD; rw [hn]
  unfold rU at h
  have hr : rdV 0 uD b s = (0, ⟨s.off, s.off, 3⟩) := by unfold rdV; rw [if_pos h0, hu]
  rw [hr, if_neg (by simp)] at h
  cases h
 | some y =>
  obtain ⟨v, k⟩ := y
  have hu : uD (b.drop s.off) = .ok (v, k) := by unfold uD; rw [hn]
  have hr : rdV 0 uD b s = (v, ⟨s.off + k, s.off, 0⟩) := by unfold rdV; rw [if_pos h0, hu]
  by_cases hv : v ≤ m
  ·
   exact ⟨v, k, h0, rfl, hv, by unfold rU; rw [hr, if_neg (by show ¬ m < v; omega)]⟩
  ·
   exfalso
   unfold rU at h
   rw [hr, if_pos (by show m < v; omega)] at h
   simp [failR] at h
theorem rU_go {b : List UInt8} {m off : Nat} {last : Int} {v k : Nat} (hn : num (b.drop off) = some (v, k)) (hv : v ≤ m) : rU m b ⟨off, last, 0⟩ = (v, ⟨off + k, off, 0⟩) := by
 have hu : uD (b.drop off) = .ok (v, k) := by unfold uD; rw [hn]
 have hr : rdV 0 uD b ⟨off, last, 0⟩ = (v, ⟨off + k, off, 0⟩) := by simp [rdV, hu]
 unfold rU; rw [hr, if_neg (by show ¬ m < v; omega)]
theorem cD_ok' {b : List UInt8} {m : Nat} {s : Rd} (h : (rdV 0 (cD m) b s).2.err = 0) : ∃ v k, s.err = 0 ∧ num (b.drop s.off) = some (v, k) ∧ v ≤ m ∧ rdV 0 (cD m) b s = (v, ⟨s.off + k, s.off, 0⟩) := by
 have h0 : s.err = 0 := Decidable.byContradiction fun hc => by
  unfold rdV at h; rw [if_neg hc] at h; exact hc h
 cases hn : num (b.drop s.off) with
 | none => exfalso; unfold rdV at h; rw [if_pos h0, cD_none hn] at h; cases h
 | some y =>
  obtain ⟨v, k⟩ := y
  by_cases hv : v ≤ m
  ·
   exact ⟨v, k, h0, rfl, hv, by unfold rdV; rw [if_pos h0, cD_ok hn hv]⟩
  ·
   exfalso; unfold rdV at h; rw [if_pos h0, cD_big hn hv] at h; cases h
theorem cD_go {b : List UInt8} {m off : Nat} {last : Int} {v k : Nat} (hn : num (b.drop off) = some (v, k)) (hv : v ≤ m) : rdV 0 (cD m) b ⟨off, last, 0⟩ = (v, ⟨off + k, off, 0⟩) := by
 unfold rdV; rw [if_pos rfl, cD_ok hn hv]
theorem sD_ok' {b : List UInt8} {s : Rd} (h : (rdV [] sD b s).2.err = 0) : s.err = 0 ∧ s.off + 32 ≤ b.length ∧ rdV [] sD b s = ((b.drop s.off).take 32, ⟨s.off + 32, s.off, 0⟩) := by
 have h0 : s.err = 0 := Decidable.byContradiction fun hc => by
  unfold rdV at h; rw [if_neg hc] at h; exact hc h
 by_cases hl : 32 ≤ (b.drop s.off).length
 ·
  exact ⟨h0, by rw [List.length_drop] at hl; omega, by unfold rdV; rw [if_pos h0, sD_ok hl]⟩
 ·
  exfalso; unfold rdV at h; rw [if_pos h0, sD_bad hl] at h; cases h
theorem rd_eq {s : Rd} (h : s.err = 0) : s = ⟨s.off, s.last, 0⟩ := by cases s; cases h; rfl
/-- The devices: what the reader read without an error the reference reads. -/
theorem stW_ws {b : List UInt8} {s : Rd} : ∀ k, (stW b s k).2.err = 0 → s.err = 0 ∧ wsS (b.drop s.off) k = some ((stW b s k).1, b.drop (stW b s k).2.off)
 | 0, h => ⟨h, rfl⟩
 | k + 1, h => by
  obtain ⟨v, j, h1, h2, h3, h4⟩ := rU_ok (show (rU 11 b (stW b s k).2).2.err = 0 from h)
  obtain ⟨h5, h6⟩ := stW_ws k h1
  refine ⟨h5, ?_⟩
  have ht := takeS_yes (most := 12) h2 (by decide) (by omega)
  rw [wsS, h6]
  simp only [ht, if_true]
  rw [stW, h4, List.drop_drop]
/-- The other way: unless a number is 12. -/
theorem ws_stW {b : List UInt8} {s : Rd} (h0 : s.err = 0) : ∀ k l r, wsS (b.drop s.off) k = some (l, r) → (∀ x ∈ l, x < 12) → (stW b s k).1 = l ∧ (stW b s k).2.err = 0 ∧ r = b.drop (stW b s k).2.off
 | 0, l, r, h, _ => by
  simp only [wsS, Option.some.injEq, Prod.mk.injEq] at h
  exact ⟨h.1, h0, h.2.symm⟩
 | k + 1, l, r, h, hl => by
  rw [wsS] at h
  cases hw : wsS (b.drop s.off) k with
  | none => rw [hw] at h; cases h
  | some y =>
   obtain ⟨l1, r1⟩ := y
   rw [hw] at h
   simp only at h
   split at h
   ·
    rename_i ht
    simp only [Option.some.injEq, Prod.mk.injEq] at h
    obtain ⟨e1, e2⟩ := h
    obtain ⟨a1, a2, a3⟩ := ws_stW h0 k l1 r1 hw (fun x hx => hl x (by rw [← e1]; simp [hx]))
    obtain ⟨v, j, b1, b2, b3⟩ := takeS_some (b := r1) (most := 12) (by decide) ht
    rw [b3] at e1 e2
    have hv : (v : Int) < 12 := hl _ (by rw [← e1]; simp)
    rw [a3] at b1 e2
    have hg := rU_go (m := 11) (last := (stW b s k).2.last) b1 (by omega)
    rw [← rd_eq a2] at hg
    rw [stW, hg]
    exact ⟨by rw [a1]; exact e1, rfl, by rw [← e2, List.drop_drop]⟩
   ·
    cases h
theorem stS_ss {b : List UInt8} {s : Rd} : ∀ k, (stS b s k).2.err = 0 → s.err = 0 ∧ (stS b s k).2.off = s.off + 32 * k ∧ (stS b s k).1 = ssS (b.drop s.off) k ∧ (0 < k → s.off + 32 * k ≤ b.length)
 | 0, h => ⟨h, rfl, rfl, fun h => absurd h (by decide)⟩
 | k + 1, h => by
  obtain ⟨h1, h2, h3⟩ := sD_ok' (show (rdV [] sD b (stS b s k).2).2.err = 0 from h)
  obtain ⟨h5, h6, h7, _⟩ := stS_ss k h1
  rw [stS, h3]
  refine ⟨h5, by show (stS b s k).2.off + 32 = _; omega, ?_, fun _ => by omega⟩
  show (stS b s k).1 ++ [(b.drop (stS b s k).2.off).take 32] = _
  rw [h7, ssS, ssS, List.range_succ, List.map_append, h6, List.map_singleton, List.drop_drop]
theorem ss_stS {b : List UInt8} {s : Rd} (h0 : s.err = 0) : ∀ k, s.off + 32 * k ≤ b.length → (stS b s k).2.err = 0 ∧ (stS b s k).2.off = s.off + 32 * k
 | 0, _ => ⟨h0, rfl⟩
 | k + 1, h => by
  obtain ⟨h1, h2⟩ := ss_stS (b := b) h0 k (by omega)
  rw [stS]
  show (rdV [] sD b (stS b s k).2).2.err = 0 ∧ (rdV [] sD b (stS b s k).2).2.off = _
  unfold rdV
  rw [if_pos h1, sD_ok (r := b.drop (stS b s k).2.off) (by rw [List.length_drop]; omega)]
  exact ⟨rfl, by show (stS b s k).2.off + 32 = _; omega⟩
theorem dec_yes {x : En} {p : Pp} (hk : x.kind = 3) (h : drecS x = some p) : decM x = some p := by
 unfold drecS at h
 split at h
 ·
  rename_i c1
  split at h
  ·
   rename_i c2
   split at h
   ·
    cases h
   ·
    rename_i y hy
    split at h
    ·
     rename_i c4
     split at h
     ·
      rename_i c5
      have e := Option.some.inj h
      have hv := valid_p c5
      obtain ⟨v1, k1, a1, a2, a3⟩ := takeS_some (b := x.body) (most := 11) (by decide) c1
      have A := rU_go (b := x.body) (off := 0) (last := 0) (m := 11) (by simpa using a1) a2
      have A' : dV x.body = (v1, ⟨0 + k1, ((0 : Nat) : Int), 0⟩) := A
      have E1 : d1S x.body = (v1, x.body.drop k1, true) := a3
      have c2' : (takeS (x.body.drop k1) 3).2.2 = true := by have := c2; unfold d2S at this; rw [E1] at this; exact this
      obtain ⟨v2, k2, b1, b2, b3⟩ := takeS_some (b := x.body.drop k1) (most := 3) (by decide) c2'
      have B : dN x.body = (v2, ⟨0 + k1 + k2, ((0 + k1 : Nat) : Int), 0⟩) := by unfold dN; rw [A']; exact cD_go (by rw [Nat.zero_add]; exact b1) b2
      have E2 : d2S x.body = (v2, x.body.drop (0 + k1 + k2), true) := by unfold d2S; rw [E1]; show takeS (x.body.drop k1) 3 = _; rw [b3, List.drop_drop, Nat.zero_add]
      have hy' : wsS (x.body.drop (0 + k1 + k2)) v2 = some (y.1, y.2) := by have := hy; unfold d3S at this; rw [E2] at this; exact this
      obtain ⟨w1, w2, w3⟩ := ws_stW (b := x.body) (s := ⟨0 + k1 + k2, ((0 + k1 : Nat) : Int), 0⟩) rfl v2 y.1 y.2 hy' (fun z hz => (hv.ws z hz).2)
      have W1 : (dW x.body).1 = y.1 := by unfold dW; rw [B]; exact w1
      have W2 : (dW x.body).2.err = 0 := by unfold dW; rw [B]; exact w2
      have W3 : y.2 = x.body.drop (dW x.body).2.off := by unfold dW; rw [B]; exact w3
      obtain ⟨v4, k4, f1, f2, f3⟩ := takeS_some (b := y.2) (most := 1024) (by decide) c4.1
      rw [f3] at c4 c5 e
      have M : dM x.body = (v4, ⟨(dW x.body).2.off + k4, ((dW x.body).2.off : Int), 0⟩) := by
       unfold dM
       have := cD_go (b := x.body) (off := (dW x.body).2.off) (last := (dW x.body).2.last) (m := 1024) (by rw [← W3]; exact f1) f2
       rw [← rd_eq W2] at this
       exact this
      have c4' : (y.2.drop k4).length = 32 * v4 := c4.2
      rw [W3, List.drop_drop, List.length_drop] at c4'
      have hs1 : 1 ≤ v4 := by
       have := hv.s1
       rw [f3] at this
       simpa [ssS] using this
      have hle : (dW x.body).2.off + k4 + 32 * v4 = x.body.length := by omega
      obtain ⟨g1, g2⟩ := ss_stS (b := x.body) (s := ⟨(dW x.body).2.off + k4, ((dW x.body).2.off : Int), 0⟩) rfl v4 (Nat.le_of_eq hle)
      obtain ⟨_, _, g3, _⟩ := stS_ss (b := x.body) (s := ⟨(dW x.body).2.off + k4, ((dW x.body).2.off : Int), 0⟩) v4 g1
      have S1 : (dS x.body).1 = ssS (y.2.drop k4) v4 := by unfold dS; rw [M, W3, List.drop_drop]; exact g3
      have S2 : (dS x.body).2.err = 0 := by unfold dS; rw [M]; exact g1
      have S3 : (dS x.body).2.off = x.body.length := by unfold dS; rw [M, ← hle]; exact g2
      have ep : decP x = p := by
       rw [← e]
       unfold decP
       rw [A', W1, S1, E1]
      have hval : validB p = true := by rw [← e]; exact c5
      unfold decM
      rw [if_pos hk, ep, if_pos ⟨by unfold endR; rw [if_pos S2, if_neg (by omega)], hval⟩]
     ·
      cases h
    ·
     cases h
  ·
   cases h
 ·
  cases h
theorem dec_back {x : En} {p : Pp} (h : decM x = some p) : drecS x = some p := by
 unfold decM at h
 split at h
 ·
  split at h
  ·
   rename_i hc
   obtain ⟨he, hval⟩ := hc
   have e := Option.some.inj h
   have hv := valid_p hval
   have S2 : (dS x.body).2.err = 0 := Decidable.byContradiction fun hn => endR_err hn he
   have hoff : x.body.length ≤ (dS x.body).2.off := by
    unfold endR at he
    rw [if_pos S2] at he
    split at he
    ·
     cases he
    ·
     rename_i hlt; exact Nat.le_of_not_lt hlt
   obtain ⟨M2, g2, g3, g4⟩ := stS_ss (b := x.body) (s := (dM x.body).2) (dM x.body).1 S2
   obtain ⟨v4, k4, W2, f1, f2, f3⟩ := cD_ok' (b := x.body) (m := 1024) (s := (dW x.body).2) M2
   have f3' : dM x.body = (v4, ⟨(dW x.body).2.off + k4, (dW x.body).2.off, 0⟩) := f3
   obtain ⟨N2, w3⟩ := stW_ws (b := x.body) (s := (dN x.body).2) (dN x.body).1 W2
   obtain ⟨v2, k2, V2, b1, b2, b3⟩ := cD_ok' (b := x.body) (m := 3) (s := (dV x.body).2) N2
   obtain ⟨v1, k1, _, a1, a2, a3⟩ := rU_ok (b := x.body) (m := 11) (s := ⟨0, 0, 0⟩) V2
   have a3' : dV x.body = (v1, ⟨0 + k1, (0 : Nat), 0⟩) := a3
   have b3' : dN x.body = (v2, ⟨(dV x.body).2.off + k2, (dV x.body).2.off, 0⟩) := b3
   have E1 : d1S x.body = (v1, x.body.drop k1, true) := takeS_yes (by simpa using a1) (by decide) a2
   have hd1 : (dV x.body).2.off = k1 := by rw [a3']; exact Nat.zero_add _
   rw [hd1] at b1 b3'
   have E2 : d2S x.body = (v2, x.body.drop (k1 + k2), true) := by
    unfold d2S; rw [E1]
    show takeS (x.body.drop k1) 3 = _
    rw [takeS_yes b1 (by decide) b2, List.drop_drop]
   have E3 : d3S x.body = some ((dW x.body).1, x.body.drop (dW x.body).2.off) := by
    unfold d3S; rw [E2]
    have := w3
    rw [b3'] at this
    unfold dW; rw [b3']
    exact this
   have E4 := takeS_yes (most := 1024) f1 (by decide) f2
   have hS : (dS x.body).1 = ssS (x.body.drop ((dW x.body).2.off + k4)) v4 := by
    unfold dS; rw [g3, f3']
   have hs1 : 1 ≤ v4 := by
    have h1 := hv.s1
    have : (decP x).ss.length = v4 := by show (dS x.body).1.length = v4; rw [hS]; simp [ssS]
    omega
   have hO : (dS x.body).2.off = (dW x.body).2.off + k4 + 32 * v4 := by unfold dS; rw [g2, f3']
   have hB : (dW x.body).2.off + k4 + 32 * v4 ≤ x.body.length := by have := g4; rw [f3'] at this; exact this (by omega)
   unfold drecS
   rw [E1, if_pos rfl, E2, if_pos rfl, E3]
   simp only [E4]
   have hq : (⟨x.dev, x.seq, (v1 : Int), (dW x.body).1, ssS ((x.body.drop (dW x.body).2.off).drop k4) v4⟩ : Pp) = p := by
    rw [← e]; unfold decP; rw [a3', hS, List.drop_drop]
   rw [hq, ← e, hval, if_pos ⟨trivial, by rw [List.drop_drop, List.length_drop]; omega⟩, if_pos rfl]
  ·
   cases h
 ·
  cases h
theorem dec_iff {x : En} (hk : x.kind = 3) : decM x = drecS x := by
 cases h : drecS x with
 | some p => exact dec_yes hk h
 | none =>
  cases h2 : decM x with
  | none => rfl
  | some p => rw [dec_back h2] at h; cases h
end Go.Proofs.YtfonbliomokffaaGreat
