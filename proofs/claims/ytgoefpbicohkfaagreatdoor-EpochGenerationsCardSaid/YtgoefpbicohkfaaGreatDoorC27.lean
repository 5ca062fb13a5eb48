/- Several texts in one: St, Rp. -/
import Derived.Test.YtgoefpbicohkfaaGreatDoorC26
/- Equal proposals; epoch.State. -/
namespace Go.Proofs.YtgoefpbicohkfaaGreatDoor
open Go Go.RowKit Go.ChangeMaps Gf Sha

theorem below_drew' {B : Nat} {w w' : World} (h : Below B w w') (q : Nat) : Below B w (w'.drewN q) := below_drewN h q
theorem equalI_any (A B' : Option Addr) (n c m d : Nat) (L M : List Int) (w : World) (h1 : LS rInt 1 8 w A n c L) (h2 : LS rInt 1 8 w B' m d M) :
    Calls Tryz.prog 55 #[.slice A n c, .slice B' m d] w fun e w' => e = .returned (.bool (L == M)) ∧ Below w.heap.size w w' := by
  have e1 := h1.1
  have e2 := h2.1
  have b1 := h1.len_le
  have b2 := h2.len_le
  by_cases hnm : n = m
  · rcases Nat.eq_zero_or_pos n with h0 | h0
    · subst hnm
      subst h0
      obtain rfl := List.eq_nil_of_length_eq_zero e1
      obtain rfl := List.eq_nil_of_length_eq_zero e2
      refine (Tryz.slices_Equal_int_empty A B' c 0 d w (by omega)).mono ?_
      rintro e w' ⟨rfl, rfl⟩
      exact ⟨rfl, Below.refl _ _⟩
    · obtain ⟨g1, o1, rfl, c1⟩ := h1.ints h0
      obtain ⟨g2, o2, rfl, c2⟩ := h2.ints (by omega)
      refine (Tryz.slices_Equal_int g1 o1 n c g2 o2 m d L M w (by omega) (by omega) (by omega) (by omega) c1 c2).mono ?_
      rintro e w' ⟨rfl, q, rfl⟩
      rw [← e1, ← e2, List.take_length, List.take_length]
      exact ⟨rfl, below_drewN (Below.refl _ _) q⟩
  · refine (Tryz.slices_Equal_int_lens A B' n c m d w hnm).mono ?_
    rintro e w' ⟨rfl, rfl⟩
    have : (L == M) = false := by rw [beq_eq_false_iff_ne]; intro e; subst e; omega
    rw [this]
    exact ⟨rfl, Below.refl _ _⟩
theorem map_strB_inj {L M : List (List UInt8)} (h : L.map strB = M.map strB) : L = M := by
  induction L generalizing M with
  | nil => cases M with
    | nil => rfl
    | cons y M => cases h
  | cons x L ih => cases M with
    | nil => cases h
    | cons y M =>
      simp only [List.map_cons, List.cons.injEq] at h
      rw [strB_inj h.1, ih h.2]
theorem LS.strD {w : World} {A : Option Addr} {n c : Nat} {m : List (List UInt8)} (h : LS rStr 1 16 w A n c m) (hn : 0 < n) : ∃ g o, A = some ⟨g, o, none⟩ ∧ ∀ j, j < (m.map strB).length → w.cell? ⟨g, o + j, none⟩ = some (.string ((m.map strB).getD j ByteArray.empty)) := by
  obtain ⟨_, g, o, _, rfl, _⟩ := h.str_at (Below.refl _ _) hn
  refine ⟨g, o, rfl, fun j hj => ?_⟩
  rw [List.length_map] at hj
  obtain ⟨x, g', o', hx, e, hc⟩ := h.str_at (Below.refl _ _) (show j < n by rw [← h.1]; exact hj)
  cases e
  rw [hc, List.getD_eq_getElem?_getD, List.getElem?_map, hx]
  rfl
theorem equalS_any (A B' : Option Addr) (n c m d : Nat) (L M : List (List UInt8)) (w : World) (h1 : LS rStr 1 16 w A n c L) (h2 : LS rStr 1 16 w B' m d M) :
    Calls Tryz.prog 56 #[.slice A n c, .slice B' m d] w fun e w' => e = .returned (.bool (L == M)) ∧ Below w.heap.size w w' := by
  have e1 := h1.1
  have e2 := h2.1
  have b1 := h1.len_le
  have b2 := h2.len_le
  by_cases hnm : n = m
  · rcases Nat.eq_zero_or_pos n with h0 | h0
    · subst hnm
      subst h0
      obtain rfl := List.eq_nil_of_length_eq_zero e1
      obtain rfl := List.eq_nil_of_length_eq_zero e2
      refine (Tryz.slices_Equal_string_empty A B' c 0 d w (by omega)).mono ?_
      rintro e w' ⟨rfl, rfl⟩
      exact ⟨rfl, Below.refl _ _⟩
    · obtain ⟨g1, o1, rfl, c1⟩ := h1.strD h0
      obtain ⟨g2, o2, rfl, c2⟩ := h2.strD (by omega)
      refine (Tryz.slices_Equal_string g1 o1 n c g2 o2 m d (L.map strB) (M.map strB) w (by rw [List.length_map]; omega) (by rw [List.length_map]; omega) (by omega) (by omega) c1 c2).mono ?_
      rintro e w' ⟨rfl, q, rfl⟩
      refine ⟨?_, below_drewN (Below.refl _ _) q⟩
      rw [List.take_of_length_le (by rw [List.length_map]; omega), List.take_of_length_le (by rw [List.length_map]; omega)]
      congr 2
      by_cases hLM : L = M
      · subst hLM; simp
      · rw [decide_eq_false (fun e => hLM (map_strB_inj e)), beq_eq_false_iff_ne.2 hLM]
  · refine (Tryz.slices_Equal_string_lens A B' n c m d w hnm).mono ?_
    rintro e w' ⟨rfl, rfl⟩
    have : (L == M) = false := by rw [beq_eq_false_iff_ne]; intro e; subst e; omega
    rw [this]
    exact ⟨rfl, Below.refl _ _⟩
/-- Equal proposals. -/
def ppEq (p q : Pp) : Bool := p.dev == q.dev && (p.seq == q.seq && (p.vault == q.vault && (p.ws == q.ws && p.ss == q.ss)))
theorem ppEq_iff (p q : Pp) : ppEq p q = true ↔ p = q := by
  simp only [ppEq, Bool.and_eq_true, beq_iff_eq]
  constructor
  · rintro ⟨h1, h2, h3, h4, h5⟩; exact Pp.eq_of h1 h2 h3 h4 h5
  · rintro rfl; exact ⟨rfl, rfl, rfl, rfl, rfl⟩
section
set_option maxRecDepth 100000
set_option maxHeartbeats 4000000
theorem equal_any (cs ds : List Value) (p q : Pp) (w : World) (hp : rPp w cs p) (hq : rPp w ds q) :
    Calls Tryz.prog 27 #[.agg cs.toArray, .agg ds.toArray] w fun e w' => e = .returned (.bool (ppEq p q)) ∧ Below w.heap.size w w' := by
  obtain ⟨A1, n1, c1, A2, n2, c2, rfl, hl1, hl2, _⟩ := hp
  obtain ⟨B1, m1, d1, B2, m2, d2, rfl, kl1, kl2, _⟩ := hq
  have H1 := Lib.hid hl1
  have H2 := Lib.hid hl2
  have K1 := Lib.hid kl1
  have K2 := Lib.hid kl2
  clear hl1 hl2 kl1 kl2
  have HE : Hid (ppEq p q = (p.dev == q.dev && (p.seq == q.seq && (p.vault == q.vault && (p.ws == q.ws && p.ss == q.ss))))) := Lib.hid rfl
  cases f1 : (p.dev == q.dev) with
  | false =>
    go_enter Tryz.func27, Tryz.ntmps27
    go_wp2_with (first
      | ((with_reducible show wpList _ _ _ (⟨some 2, _, _, _, _, _⟩ :: _) _ _); refine wpList_box _ rfl 34 (.tmp 0) rfl (ppC p A1 n1 c1 A2 n2 c2) rfl ?_; intro w1 y1 y2 y3; have HP1 := Lib.hid y1; have HB1 := Lib.hid y2; clear y1 y2 y3)
      | ((with_reducible show wpList _ _ _ (⟨some 3, _, _, _, _, _⟩ :: _) _ _); refine wpList_box _ rfl 34 (.tmp 1) rfl (ppC q B1 m1 d1 B2 m2 d2) rfl ?_; intro w2 y1 y2 y3; have HB2 := Lib.hid (below_then HB1.out y2); have HP2 := Lib.hid (HP1.out.kept y2); have HQ2 := Lib.hid y1; have q0 := (HP1.out.kept y2).get (j := 0) rfl; have q1 := (HP1.out.kept y2).get (j := 1) rfl; have q2 := (HP1.out.kept y2).get (j := 2) rfl; have q3 := (HP1.out.kept y2).get (j := 3) rfl; have r0 := y1.get (j := 0) rfl; have r1 := y1.get (j := 1) rfl; have r2 := y1.get (j := 2) rfl; have r3 := y1.get (j := 3) rfl; clear y1 y2 y3)
      | (go_at_call 55; refine (equalI_any A1 B1 n1 c1 m1 d1 p.ws q.ws w2 (H1.out.kept stay_int HB2.out) (K1.out.kept stay_int HB2.out)).mono ?_; rintro e w3 ⟨rfl, b3⟩; rw [f4]; have HB3 := Lib.hid (below_then HB2.out b3); have q4 := (HP2.out.kept b3).get (j := 4) rfl; have r4 := (HQ2.out.kept b3).get (j := 4) rfl; clear b3)
      | (go_at_call 56; refine (equalS_any A2 B2 n2 c2 m2 d2 p.ss q.ss w3 (H2.out.kept stay_str HB3.out) (K2.out.kept stay_str HB3.out)).mono ?_; rintro e w4 ⟨rfl, b3⟩; have HB4 := Lib.hid (below_then HB3.out b3); clear b3))
    go_ret
    exact ⟨by rw [HE.out, f1]; rfl, HB2.out⟩
  | true =>
    cases f2 : (p.seq == q.seq) with
    | false =>
      go_enter Tryz.func27, Tryz.ntmps27
      go_wp2_with (first
        | ((with_reducible show wpList _ _ _ (⟨some 2, _, _, _, _, _⟩ :: _) _ _); refine wpList_box _ rfl 34 (.tmp 0) rfl (ppC p A1 n1 c1 A2 n2 c2) rfl ?_; intro w1 y1 y2 y3; have HP1 := Lib.hid y1; have HB1 := Lib.hid y2; clear y1 y2 y3)
        | ((with_reducible show wpList _ _ _ (⟨some 3, _, _, _, _, _⟩ :: _) _ _); refine wpList_box _ rfl 34 (.tmp 1) rfl (ppC q B1 m1 d1 B2 m2 d2) rfl ?_; intro w2 y1 y2 y3; have HB2 := Lib.hid (below_then HB1.out y2); have HP2 := Lib.hid (HP1.out.kept y2); have HQ2 := Lib.hid y1; have q0 := (HP1.out.kept y2).get (j := 0) rfl; have q1 := (HP1.out.kept y2).get (j := 1) rfl; have q2 := (HP1.out.kept y2).get (j := 2) rfl; have q3 := (HP1.out.kept y2).get (j := 3) rfl; have r0 := y1.get (j := 0) rfl; have r1 := y1.get (j := 1) rfl; have r2 := y1.get (j := 2) rfl; have r3 := y1.get (j := 3) rfl; clear y1 y2 y3)
        | (go_at_call 55; refine (equalI_any A1 B1 n1 c1 m1 d1 p.ws q.ws w2 (H1.out.kept stay_int HB2.out) (K1.out.kept stay_int HB2.out)).mono ?_; rintro e w3 ⟨rfl, b3⟩; rw [f4]; have HB3 := Lib.hid (below_then HB2.out b3); have q4 := (HP2.out.kept b3).get (j := 4) rfl; have r4 := (HQ2.out.kept b3).get (j := 4) rfl; clear b3)
        | (go_at_call 56; refine (equalS_any A2 B2 n2 c2 m2 d2 p.ss q.ss w3 (H2.out.kept stay_str HB3.out) (K2.out.kept stay_str HB3.out)).mono ?_; rintro e w4 ⟨rfl, b3⟩; have HB4 := Lib.hid (below_then HB3.out b3); clear b3))
      go_ret
      exact ⟨by rw [HE.out, f1, f2]; rfl, HB2.out⟩
    | true =>
      cases f3 : (p.vault == q.vault) with
      | false =>
        go_enter Tryz.func27, Tryz.ntmps27
        go_wp2_with (first
          | ((with_reducible show wpList _ _ _ (⟨some 2, _, _, _, _, _⟩ :: _) _ _); refine wpList_box _ rfl 34 (.tmp 0) rfl (ppC p A1 n1 c1 A2 n2 c2) rfl ?_; intro w1 y1 y2 y3; have HP1 := Lib.hid y1; have HB1 := Lib.hid y2; clear y1 y2 y3)
          | ((with_reducible show wpList _ _ _ (⟨some 3, _, _, _, _, _⟩ :: _) _ _); refine wpList_box _ rfl 34 (.tmp 1) rfl (ppC q B1 m1 d1 B2 m2 d2) rfl ?_; intro w2 y1 y2 y3; have HB2 := Lib.hid (below_then HB1.out y2); have HP2 := Lib.hid (HP1.out.kept y2); have HQ2 := Lib.hid y1; have q0 := (HP1.out.kept y2).get (j := 0) rfl; have q1 := (HP1.out.kept y2).get (j := 1) rfl; have q2 := (HP1.out.kept y2).get (j := 2) rfl; have q3 := (HP1.out.kept y2).get (j := 3) rfl; have r0 := y1.get (j := 0) rfl; have r1 := y1.get (j := 1) rfl; have r2 := y1.get (j := 2) rfl; have r3 := y1.get (j := 3) rfl; clear y1 y2 y3)
          | (go_at_call 55; refine (equalI_any A1 B1 n1 c1 m1 d1 p.ws q.ws w2 (H1.out.kept stay_int HB2.out) (K1.out.kept stay_int HB2.out)).mono ?_; rintro e w3 ⟨rfl, b3⟩; rw [f4]; have HB3 := Lib.hid (below_then HB2.out b3); have q4 := (HP2.out.kept b3).get (j := 4) rfl; have r4 := (HQ2.out.kept b3).get (j := 4) rfl; clear b3)
          | (go_at_call 56; refine (equalS_any A2 B2 n2 c2 m2 d2 p.ss q.ss w3 (H2.out.kept stay_str HB3.out) (K2.out.kept stay_str HB3.out)).mono ?_; rintro e w4 ⟨rfl, b3⟩; have HB4 := Lib.hid (below_then HB3.out b3); clear b3))
        go_ret
        exact ⟨by rw [HE.out, f1, f2, f3]; rfl, HB2.out⟩
      | true =>
        cases f4 : (p.ws == q.ws) with
        | false =>
          go_enter Tryz.func27, Tryz.ntmps27
          go_wp2_with (first
            | ((with_reducible show wpList _ _ _ (⟨some 2, _, _, _, _, _⟩ :: _) _ _); refine wpList_box _ rfl 34 (.tmp 0) rfl (ppC p A1 n1 c1 A2 n2 c2) rfl ?_; intro w1 y1 y2 y3; have HP1 := Lib.hid y1; have HB1 := Lib.hid y2; clear y1 y2 y3)
            | ((with_reducible show wpList _ _ _ (⟨some 3, _, _, _, _, _⟩ :: _) _ _); refine wpList_box _ rfl 34 (.tmp 1) rfl (ppC q B1 m1 d1 B2 m2 d2) rfl ?_; intro w2 y1 y2 y3; have HB2 := Lib.hid (below_then HB1.out y2); have HP2 := Lib.hid (HP1.out.kept y2); have HQ2 := Lib.hid y1; have q0 := (HP1.out.kept y2).get (j := 0) rfl; have q1 := (HP1.out.kept y2).get (j := 1) rfl; have q2 := (HP1.out.kept y2).get (j := 2) rfl; have q3 := (HP1.out.kept y2).get (j := 3) rfl; have r0 := y1.get (j := 0) rfl; have r1 := y1.get (j := 1) rfl; have r2 := y1.get (j := 2) rfl; have r3 := y1.get (j := 3) rfl; clear y1 y2 y3)
            | (go_at_call 55; refine (equalI_any A1 B1 n1 c1 m1 d1 p.ws q.ws w2 (H1.out.kept stay_int HB2.out) (K1.out.kept stay_int HB2.out)).mono ?_; rintro e w3 ⟨rfl, b3⟩; rw [f4]; have HB3 := Lib.hid (below_then HB2.out b3); have q4 := (HP2.out.kept b3).get (j := 4) rfl; have r4 := (HQ2.out.kept b3).get (j := 4) rfl; clear b3)
            | (go_at_call 56; refine (equalS_any A2 B2 n2 c2 m2 d2 p.ss q.ss w3 (H2.out.kept stay_str HB3.out) (K2.out.kept stay_str HB3.out)).mono ?_; rintro e w4 ⟨rfl, b3⟩; have HB4 := Lib.hid (below_then HB3.out b3); clear b3))
          go_ret
          exact ⟨by rw [HE.out, f1, f2, f3, f4]; rfl, HB3.out⟩
        | true =>
          go_enter Tryz.func27, Tryz.ntmps27
          go_wp2_with (first
            | ((with_reducible show wpList _ _ _ (⟨some 2, _, _, _, _, _⟩ :: _) _ _); refine wpList_box _ rfl 34 (.tmp 0) rfl (ppC p A1 n1 c1 A2 n2 c2) rfl ?_; intro w1 y1 y2 y3; have HP1 := Lib.hid y1; have HB1 := Lib.hid y2; clear y1 y2 y3)
            | ((with_reducible show wpList _ _ _ (⟨some 3, _, _, _, _, _⟩ :: _) _ _); refine wpList_box _ rfl 34 (.tmp 1) rfl (ppC q B1 m1 d1 B2 m2 d2) rfl ?_; intro w2 y1 y2 y3; have HB2 := Lib.hid (below_then HB1.out y2); have HP2 := Lib.hid (HP1.out.kept y2); have HQ2 := Lib.hid y1; have q0 := (HP1.out.kept y2).get (j := 0) rfl; have q1 := (HP1.out.kept y2).get (j := 1) rfl; have q2 := (HP1.out.kept y2).get (j := 2) rfl; have q3 := (HP1.out.kept y2).get (j := 3) rfl; have r0 := y1.get (j := 0) rfl; have r1 := y1.get (j := 1) rfl; have r2 := y1.get (j := 2) rfl; have r3 := y1.get (j := 3) rfl; clear y1 y2 y3)
            | (go_at_call 55; refine (equalI_any A1 B1 n1 c1 m1 d1 p.ws q.ws w2 (H1.out.kept stay_int HB2.out) (K1.out.kept stay_int HB2.out)).mono ?_; rintro e w3 ⟨rfl, b3⟩; rw [f4]; have HB3 := Lib.hid (below_then HB2.out b3); have q4 := (HP2.out.kept b3).get (j := 4) rfl; have r4 := (HQ2.out.kept b3).get (j := 4) rfl; clear b3)
            | (go_at_call 56; refine (equalS_any A2 B2 n2 c2 m2 d2 p.ss q.ss w3 (H2.out.kept stay_str HB3.out) (K2.out.kept stay_str HB3.out)).mono ?_; rintro e w4 ⟨rfl, b3⟩; have HB4 := Lib.hid (below_then HB3.out b3); clear b3))
          go_ret
          exact ⟨by rw [HE.out, f1, f2, f3, f4]; rfl, HB4.out⟩
theorem idx_eq (A : Option Addr) (n c : Nat) (L : List Pp) (ps : List Value) (q : Pp) (w : World) (hL : LS rPpT 5 72 w A n c L) (hq : rPp w ps q) :
    Calls Tryz.prog 54 #[.slice A n c, .func (.func 27) #[.agg ps.toArray] #[]] w fun e w' => ∃ r, e = .returned (.int .i64 r) ∧ idxP (fun x => ppEq q x) L r ∧ Below w.heap.size w w' := by
  have hn := hL.len_le
  have H := Lib.hid hL
  have HL := Lib.hid hL.1
  have HQ := Lib.hid hq
  clear hL hq
  go_enter Tryz.func54, Tryz.ntmps54
  go_wp2_with fail
  go_loopw [8] (fun iv wr => ∃ k : Nat, k ≤ n ∧ iv = .int .i64 (k : Int) ∧ Hid (∀ x ∈ L.take k, ppEq q x = false) ∧ Hid (Below w.heap.size w wr)) (fun iv _ => n - (intOf iv).toNat)
  case atStart => exact ⟨0, by omega, rfl, Lib.hid (fun x hx => by simp at hx), Lib.hid (Below.refl _ _)⟩
  case round =>
    obtain ⟨k, hk, rfl, hall, hb⟩ := hrel
    obtain ⟨wx, hwx⟩ : ∃ x, x = wr := ⟨_, rfl⟩
    rw [← hwx] at hb ⊢
    clear hwx
    by_cases hlt : k < n
    · obtain ⟨x, g, o, cs, hs, ea, hat, hr⟩ := H.out.at_ stay_ppt hb.out hlt
      have HR := Lib.hid hr
      have HX := Lib.hid hs
      have HA := Lib.hid hat
      have HLEN := Lib.hid (len_ppt cs x hr)
      subst ea
      clear hs hat hr
      cases h1 : ppEq q x with
      | true =>
        go_wp2_with (first
          | ((with_reducible show wpList _ _ _ (⟨some 15, _, _, _, _, _⟩ :: _) _ _); refine wpList_loadv _ rfl 34 (.tmp 14) rfl 5 (by kernel_rfl) g (o + k * 5) cs (by go_simp) HA.out HLEN.out ?_)
          | (go_at_call 27; refine (equal_any ps cs q x wx (stay_pp _ _ _ _ HQ.out hb.out) HR.out.1).mono ?_; rintro e w2 ⟨rfl, bl⟩; rw [h1]; have HX2 := Lib.hid bl; clear bl))
        go_ret
        exact ⟨(k : Int), rfl, .inr ⟨k, x, rfl, HX.out, h1, hall.out⟩, below_thenB hb.out hb.out.size HX2.out⟩
      | false =>
        have HALL : Hid (∀ x ∈ L.take (k + 1), ppEq q x = false) := Lib.hid (fun y hy => by
          rw [take_next HX.out] at hy
          rcases List.mem_append.1 hy with h | h
          · exact hall.out y h
          · rw [List.mem_singleton.1 h]; exact h1)
        go_wp2_with (first
          | ((with_reducible show wpList _ _ _ (⟨some 15, _, _, _, _, _⟩ :: _) _ _); refine wpList_loadv _ rfl 34 (.tmp 14) rfl 5 (by kernel_rfl) g (o + k * 5) cs (by go_simp) HA.out HLEN.out ?_)
          | (go_at_call 27; refine (equal_any ps cs q x wx (stay_pp _ _ _ _ HQ.out hb.out) HR.out.1).mono ?_; rintro e w2 ⟨rfl, bl⟩; rw [h1]; have HX2 := Lib.hid bl; clear bl))
        go_roundw
        case rel => exact ⟨k + 1, by omega, by go_num, HALL, Lib.hid (below_thenB hb.out hb.out.size HX2.out)⟩
        case measure => simp [intOf]; omega
    · obtain rfl : k = n := by omega
      go_wp2_with fail
      go_ret
      exact ⟨-1, rfl, .inl ⟨rfl, fun x hx => hall.out x (by rw [take_end HL.out]; exact hx)⟩, hb.out⟩
theorem idx_any {α : Type} {p : α → Bool} {L : List α} {r : Int} (h : idxP p L r) : decide (0 ≤ r) = L.any p := by
  rcases h with ⟨rfl, h⟩ | ⟨i, x, rfl, h1, h2, _⟩
  · rw [List.any_eq_false.2 (fun x hx => by rw [h x hx]; simp)]; rfl
  · rw [List.any_eq_true.2 ⟨x, mem_of h1, h2⟩, decide_eq_true (by omega)]
theorem cont_eq (A : Option Addr) (n c : Nat) (L : List Pp) (ps : List Value) (q : Pp) (w : World) (hL : LS rPpT 5 72 w A n c L) (hq : rPp w ps q) :
    Calls Tryz.prog 26 #[.slice A n c, .func (.func 27) #[.agg ps.toArray] #[]] w fun e w' => e = .returned (.bool (L.any fun x => ppEq q x)) ∧ Below w.heap.size w w' := by
  have H := Lib.hid hL
  have HQ := Lib.hid hq
  clear hL hq
  go_enter Tryz.func26, Tryz.ntmps26
  go_wp2_with (first
    | (go_at_call 54; refine (idx_eq A n c L ps q w H.out HQ.out).mono ?_; rintro e w1 ⟨r, rfl, h1, h2⟩; have HI := Lib.hid (idx_any h1); have HB := Lib.hid h2; clear h1 h2))
  go_ret
  exact ⟨by rw [← HI.out]; rfl, HB.out⟩
/-- What State hands back. -/
def stR (D : List En) (p : Pp) (ex : List Int) : Array Value := if (ppL D).any (fun x => ppEq p x) then #[.int .i64 (stateOf D p ex), .int .i64 0] else #[.int .i64 0, .int .i64 4]
theorem stR_no {D : List En} {p : Pp} {ex : List Int} (h : ((ppL D).any fun x => ppEq p x) = false) : stR D p ex = #[.int .i64 0, .int .i64 4] := by rw [stR, h]; rfl
theorem stR_yes {D : List En} {p : Pp} {ex : List Int} (h : ((ppL D).any fun x => ppEq p x) = true) : stR D p ex = #[.int .i64 (stateOf D p ex), .int .i64 0] := by rw [stR, h]; rfl
theorem State_any (A : Option Addr) (n c : Nat) (es : List En) (ps : List Value) (p : Pp) (A9 : Option Addr) (n9 c9 : Nat) (ex : List Int) (w : World) (h : LS rEn 6 72 w A n c es) (hn : n ≤ 2000) (hp : rPp w ps p) (hex : LS rInt 1 8 w A9 n9 c9 ex) :
    Calls Tryz.prog 10 #[.slice A n c, .agg ps.toArray, .slice A9 n9 c9] w fun e w' => e = .returned (.tuple (stR (dd es) p ex)) ∧ Below w.heap.size w w' := by
  have HLE : Hid ((ppL (dd es)).length ≤ 1000000) := Lib.hid (by have := ppl_len es; have := h.1; omega)
  have H := Lib.hid h
  have HN := Lib.hid hn
  have HP := Lib.hid hp
  have HEX := Lib.hid hex
  obtain ⟨A1, n1, c1, A2, n2, c2, rfl, _⟩ := hp
  clear h hn hex
  have hmf : ∀ (fn : Fn) (first cap : Array Value) (w : World), (Instr.makeFunc fn first cap).run Tryz.prog w = .ok (.func fn first cap) w := fun _ _ _ _ => rfl
  cases hc : (ppL (dd es)).any (fun x => ppEq p x) with
  | false =>
    have HR := Lib.hid (stR_no (ex := ex) hc)
    go_enter Tryz.func10, Tryz.ntmps10
    go_wp2_with (first
      | ((with_reducible show wpList _ _ _ (⟨some 4, _, _, _, _, _⟩ :: _) _ _); refine wpList_box _ rfl 34 (.tmp 1) rfl (ppC p A1 n1 c1 A2 n2 c2) rfl ?_; intro w1 y1 y2 y3; have HI1 := Lib.hid y1; have HB1 := Lib.hid y2; clear y1 y2 y3)
      | (go_at_call 25; refine (newView_any A n c es w1 (H.out.kept stay_en HB1.out) HN.out).mono ?_; rintro e w2 ⟨cv, rfl, x1, x2⟩; have HV2 := Lib.hid x1; have HI2 := Lib.hid (HI1.out.kept x2); have HB2 := Lib.hid (below_then HB1.out x2); obtain ⟨AA, nn, cc, bm, vs, f, ecv, z1, z2, _⟩ := x1; subst ecv; have HPV2 := Lib.hid z1; have HVS := Lib.hid z2; clear x2 z1 z2)
      | ((with_reducible show wpList _ _ _ (⟨some 8, _, _, _, _, _⟩ :: _) _ _); refine wpList_alloc _ rfl 60 rfl vwZ vwZero ?_; intro w3 a1 a2 a3; have HW3 := Lib.hid a1; have HX3 := Lib.hid a2; clear a1 a2 a3)
      | ((with_reducible show wpList _ _ _ (⟨none, _, _, _, _, _⟩ :: _) _ _); refine wpList_storev _ rfl 60 (.tmp 8) (.tmp 10) rfl 2 (by kernel_rfl) w2.heap.size 0 _ vwZ [.slice AA nn cc, .map (some bm)] rfl rfl HW3.out rfl (one_val _ rfl) (by decide) ?_; intro w4 a1 a2 a3; have b4 := low_kp HX3.out a2 (fun i hi e => by omega); have HW4 : Hid (BL w4 w2.heap.size 60 [.slice AA nn cc, .map (some bm)]) := Lib.hid a1; have q0 := HW4.out.get (j := 0) rfl; have HI4 := Lib.hid (HI2.out.kept b4); have HV4 := Lib.hid (HV2.out.kept b4); have HPV4 := Lib.hid (HPV2.out.kept b4); have HB4 := Lib.hid (below_then HB2.out b4); clear a1 a2 a3 b4)
      | ((with_reducible show wpList _ _ _ (⟨some 13, _, _, _, _, _⟩ :: _) _ _); refine wpList_loadv _ rfl 34 (.tmp 4) rfl 5 (by kernel_rfl) w.heap.size 0 _ rfl (BL.all HI4.out) rfl ?_)
      | (go_at_call 26; refine (cont_eq AA nn cc (ppL (dd es)) _ p w4 (by have h9 := (HPV4.out.lt (by have h8 := congrArg List.length HVS.out; rw [List.length_map] at h8; have := HLE.out; omega)).1; rwa [HVS.out] at h9) (stay_pp _ _ _ _ HP.out HB4.out)).mono ?_; rintro e w5 ⟨rfl, b5⟩; rw [hc]; have HB5 := Lib.hid (below_then HB4.out b5); have HW5 := Lib.hid (HW4.out.kept b5); have HI5 := Lib.hid (HI4.out.kept b5); have HV5 := Lib.hid (HV4.out.kept b5); clear b5)
      | ((with_reducible show wpList _ _ _ (⟨some 17, _, _, _, _, _⟩ :: _) _ _); refine wpList_loadv _ rfl 60 (.tmp 8) rfl 2 (by kernel_rfl) w2.heap.size 0 _ rfl (BL.all HW5.out) rfl ?_)
      | ((with_reducible show wpList _ _ _ (⟨some 18, _, _, _, _, _⟩ :: _) _ _); refine wpList_loadv _ rfl 34 (.tmp 4) rfl 5 (by kernel_rfl) w.heap.size 0 _ rfl (BL.all HI5.out) rfl ?_)
      | (go_at_call 28; refine (state_any _ (dd es) _ p A9 n9 c9 ex w5 HV5.out.m (stay_pp _ _ _ _ HP.out HB5.out) (valid_dev HV.out).1 (by have := (valid_dev HV.out).2.2; omega) (HEX.out.kept stay_int HB5.out)).mono ?_; rintro e w6 ⟨rfl, b6⟩; have HB6 := Lib.hid (below_then HB5.out b6); clear b6))
    go_ret2
    exact ⟨by rw [HR.out]; rfl, HB5.out⟩
  | true =>
    have HR := Lib.hid (stR_yes (ex := ex) hc)
    have HV : Hid (validB p = true) := Lib.hid (by
      obtain ⟨x, hx, e⟩ := List.any_eq_true.1 hc
      rw [ppEq_iff] at e
      subst e
      exact ppL_valid hx)
    go_enter Tryz.func10, Tryz.ntmps10
    go_wp2_with (first
      | ((with_reducible show wpList _ _ _ (⟨some 4, _, _, _, _, _⟩ :: _) _ _); refine wpList_box _ rfl 34 (.tmp 1) rfl (ppC p A1 n1 c1 A2 n2 c2) rfl ?_; intro w1 y1 y2 y3; have HI1 := Lib.hid y1; have HB1 := Lib.hid y2; clear y1 y2 y3)
      | (go_at_call 25; refine (newView_any A n c es w1 (H.out.kept stay_en HB1.out) HN.out).mono ?_; rintro e w2 ⟨cv, rfl, x1, x2⟩; have HV2 := Lib.hid x1; have HI2 := Lib.hid (HI1.out.kept x2); have HB2 := Lib.hid (below_then HB1.out x2); obtain ⟨AA, nn, cc, bm, vs, f, ecv, z1, z2, _⟩ := x1; subst ecv; have HPV2 := Lib.hid z1; have HVS := Lib.hid z2; clear x2 z1 z2)
      | ((with_reducible show wpList _ _ _ (⟨some 8, _, _, _, _, _⟩ :: _) _ _); refine wpList_alloc _ rfl 60 rfl vwZ vwZero ?_; intro w3 a1 a2 a3; have HW3 := Lib.hid a1; have HX3 := Lib.hid a2; clear a1 a2 a3)
      | ((with_reducible show wpList _ _ _ (⟨none, _, _, _, _, _⟩ :: _) _ _); refine wpList_storev _ rfl 60 (.tmp 8) (.tmp 10) rfl 2 (by kernel_rfl) w2.heap.size 0 _ vwZ [.slice AA nn cc, .map (some bm)] rfl rfl HW3.out rfl (one_val _ rfl) (by decide) ?_; intro w4 a1 a2 a3; have b4 := low_kp HX3.out a2 (fun i hi e => by omega); have HW4 : Hid (BL w4 w2.heap.size 60 [.slice AA nn cc, .map (some bm)]) := Lib.hid a1; have q0 := HW4.out.get (j := 0) rfl; have HI4 := Lib.hid (HI2.out.kept b4); have HV4 := Lib.hid (HV2.out.kept b4); have HPV4 := Lib.hid (HPV2.out.kept b4); have HB4 := Lib.hid (below_then HB2.out b4); clear a1 a2 a3 b4)
      | ((with_reducible show wpList _ _ _ (⟨some 13, _, _, _, _, _⟩ :: _) _ _); refine wpList_loadv _ rfl 34 (.tmp 4) rfl 5 (by kernel_rfl) w.heap.size 0 _ rfl (BL.all HI4.out) rfl ?_)
      | (go_at_call 26; refine (cont_eq AA nn cc (ppL (dd es)) _ p w4 (by have h9 := (HPV4.out.lt (by have h8 := congrArg List.length HVS.out; rw [List.length_map] at h8; have := HLE.out; omega)).1; rwa [HVS.out] at h9) (stay_pp _ _ _ _ HP.out HB4.out)).mono ?_; rintro e w5 ⟨rfl, b5⟩; rw [hc]; have HB5 := Lib.hid (below_then HB4.out b5); have HW5 := Lib.hid (HW4.out.kept b5); have HI5 := Lib.hid (HI4.out.kept b5); have HV5 := Lib.hid (HV4.out.kept b5); clear b5)
      | ((with_reducible show wpList _ _ _ (⟨some 17, _, _, _, _, _⟩ :: _) _ _); refine wpList_loadv _ rfl 60 (.tmp 8) rfl 2 (by kernel_rfl) w2.heap.size 0 _ rfl (BL.all HW5.out) rfl ?_)
      | ((with_reducible show wpList _ _ _ (⟨some 18, _, _, _, _, _⟩ :: _) _ _); refine wpList_loadv _ rfl 34 (.tmp 4) rfl 5 (by kernel_rfl) w.heap.size 0 _ rfl (BL.all HI5.out) rfl ?_)
      | (go_at_call 28; refine (state_any _ (dd es) _ p A9 n9 c9 ex w5 HV5.out.m (stay_pp _ _ _ _ HP.out HB5.out) (valid_dev HV.out).1 (by have := (valid_dev HV.out).2.2; omega) (HEX.out.kept stay_int HB5.out)).mono ?_; rintro e w6 ⟨rfl, b6⟩; have HB6 := Lib.hid (below_then HB5.out b6); clear b6))
    go_ret2
    exact ⟨by rw [HR.out]; rfl, HB6.out⟩
end
end Go.Proofs.YtgoefpbicohkfaaGreatDoor
/- epoch.Reply. -/
namespace Go.Proofs.YtgoefpbicohkfaaGreatDoor
open Go Go.RowKit Go.ChangeMaps Gf Sha

theorem wpList_makeGs {κ : Type} {P : Program} (w : World) {ops : Array Oper} {rest : List Oper} {o : Oper} {a : Act} {Q : Exit → Act → World → Prop} {enc : κ → Value} (hg : o.guard = none) (t k e : TypeId) (x : Operand) (hop : o.op = .makeMap t (some x)) (ht : P.underlying t = some (.map k e)) (n : Int) (hx : a.eval x = .int .i64 n) (z : Value)
    (h : ∀ w', MG P k enc z w' w.heap.size (fun _ => z) → Below w.heap.size w w' → w'.heap.size = w.heap.size + 1 → wpList P ops Q rest (a.put o.dst (.map (some w.heap.size))) w') : wpList P ops Q (o :: rest) a w :=
  wpList_plain hg fun _ hK' => by
    unfold Oper.wp execOp
    simp only [hop]
    simp [Instr.makeMap, hx, run_underlying ht, asInt, asIntOf, Result.andThen]
    exact hK' _ _ (h _ (MG.new (MF.new (MB.new P k w))) ((Below.refl _ _).alloc (Nat.le_refl _) _) (by simp))
theorem LS.str_mem {w : World} {A : Option Addr} {n c : Nat} {m : List (List UInt8)} (h : LS rStr 1 16 w A n c m) {x : List UInt8} (hx : x ∈ m) : x.length ≤ reachBytes := by
  obtain ⟨k, hk⟩ := List.mem_iff_getElem?.1 hx
  exact h.str_ok hk
theorem usC_in {x y : List UInt8} (h : usC x = usC y) : x = y := strB_inj (by injection h)
section
set_option maxRecDepth 100000
set_option maxHeartbeats 4000000
theorem idx_want (A : Option Addr) (n c : Nat) (L : List (List UInt8)) (p : List UInt8 → Bool) (pa : Value) (w : World) (hL : LS rStr 1 16 w A n c L)
    (hc : ∀ (w1 : World) (x : List UInt8), Below w.heap.size w w1 → x ∈ L → Calls Tryz.prog 38 #[.string (strB x), pa] w1 fun e w' => e = .returned (.bool (p x)) ∧ Below w1.heap.size w1 w') :
    Calls Tryz.prog 62 #[.slice A n c, .func (.func 38) #[] #[pa]] w fun e w' => ∃ r, e = .returned (.int .i64 r) ∧ idxP p L r ∧ Below w.heap.size w w' := by
  have hn := hL.len_le
  have H := Lib.hid hL
  have HL := Lib.hid hL.1
  have HC := Lib.hid hc
  clear hL hc
  go_enter Tryz.func62, Tryz.ntmps62
  go_wp2_with fail
  go_loopw [8] (fun iv wr => ∃ k : Nat, k ≤ n ∧ iv = .int .i64 (k : Int) ∧ Hid (∀ x ∈ L.take k, p x = false) ∧ Hid (Below w.heap.size w wr)) (fun iv _ => n - (intOf iv).toNat)
  case atStart => exact ⟨0, by omega, rfl, Lib.hid (fun x hx => by simp at hx), Lib.hid (Below.refl _ _)⟩
  case round =>
    obtain ⟨k, hk, rfl, hall, hb⟩ := hrel
    obtain ⟨wx, hwx⟩ : ∃ x, x = wr := ⟨_, rfl⟩
    rw [← hwx] at hb ⊢
    clear hwx
    by_cases hlt : k < n
    · obtain ⟨x, g, o, hs, ea, q0⟩ := H.out.str_at hb.out hlt
      have HX := Lib.hid hs
      have HCX := Lib.hid (HC.out wx x hb.out (mem_of hs))
      subst ea
      clear hs
      cases h1 : p x with
      | true =>
        go_wp2_with (first
          | (go_at_call 38; refine HCX.out.mono ?_; rintro e w2 ⟨rfl, bl⟩; rw [h1]; have HX2 := Lib.hid bl; clear bl))
        go_ret
        exact ⟨(k : Int), rfl, .inr ⟨k, x, rfl, HX.out, h1, hall.out⟩, below_thenB hb.out hb.out.size HX2.out⟩
      | false =>
        have HALL : Hid (∀ x ∈ L.take (k + 1), p x = false) := Lib.hid (fun y hy => by
          rw [take_next HX.out] at hy
          rcases List.mem_append.1 hy with h | h
          · exact hall.out y h
          · rw [List.mem_singleton.1 h]; exact h1)
        go_wp2_with (first
          | (go_at_call 38; refine HCX.out.mono ?_; rintro e w2 ⟨rfl, bl⟩; rw [h1]; have HX2 := Lib.hid bl; clear bl))
        go_roundw
        case rel => exact ⟨k + 1, by omega, by go_num, HALL, Lib.hid (below_thenB hb.out hb.out.size HX2.out)⟩
        case measure => simp [intOf]; omega
    · obtain rfl : k = n := by omega
      go_wp2_with fail
      go_ret
      exact ⟨-1, rfl, .inl ⟨rfl, fun x hx => hall.out x (by rw [take_end HL.out]; exact hx)⟩, hb.out⟩
theorem cont_want (A : Option Addr) (n c : Nat) (L : List (List UInt8)) (p : List UInt8 → Bool) (pa : Value) (w : World) (hL : LS rStr 1 16 w A n c L)
    (hc : ∀ (w1 : World) (x : List UInt8), Below w.heap.size w w1 → x ∈ L → Calls Tryz.prog 38 #[.string (strB x), pa] w1 fun e w' => e = .returned (.bool (p x)) ∧ Below w1.heap.size w1 w') :
    Calls Tryz.prog 37 #[.slice A n c, .func (.func 38) #[] #[pa]] w fun e w' => e = .returned (.bool (L.any p)) ∧ Below w.heap.size w w' := by
  have H := Lib.hid hL
  have HC := Lib.hid hc
  clear hL hc
  go_enter Tryz.func37, Tryz.ntmps37
  go_wp2_with (first
    | (go_at_call 62; refine (idx_want A n c L p pa w H.out HC.out).mono ?_; rintro e w1 ⟨r, rfl, h1, h2⟩; have HI := Lib.hid (idx_any h1); have HB := Lib.hid h2; clear h1 h2))
  go_ret
  exact ⟨by rw [← HI.out]; rfl, HB.out⟩
theorem idx_oth (A : Option Addr) (n c : Nat) (L : List (Int)) (p : Int → Bool) (pa : Value) (w : World) (hL : LS rInt 1 8 w A n c L)
    (hc : ∀ (w1 : World) (x : Int), Below w.heap.size w w1 → x ∈ L → Calls Tryz.prog 40 #[.int .i64 x, pa] w1 fun e w' => e = .returned (.bool (p x)) ∧ Below w1.heap.size w1 w') :
    Calls Tryz.prog 63 #[.slice A n c, .func (.func 40) #[] #[pa]] w fun e w' => ∃ r, e = .returned (.int .i64 r) ∧ idxP p L r ∧ Below w.heap.size w w' := by
  have hn := hL.len_le
  have H := Lib.hid hL
  have HL := Lib.hid hL.1
  have HC := Lib.hid hc
  clear hL hc
  go_enter Tryz.func63, Tryz.ntmps63
  go_wp2_with fail
  go_loopw [8] (fun iv wr => ∃ k : Nat, k ≤ n ∧ iv = .int .i64 (k : Int) ∧ Hid (∀ x ∈ L.take k, p x = false) ∧ Hid (Below w.heap.size w wr)) (fun iv _ => n - (intOf iv).toNat)
  case atStart => exact ⟨0, by omega, rfl, Lib.hid (fun x hx => by simp at hx), Lib.hid (Below.refl _ _)⟩
  case round =>
    obtain ⟨k, hk, rfl, hall, hb⟩ := hrel
    obtain ⟨wx, hwx⟩ : ∃ x, x = wr := ⟨_, rfl⟩
    rw [← hwx] at hb ⊢
    clear hwx
    by_cases hlt : k < n
    · obtain ⟨x, g, o, hs, ea, q0⟩ := H.out.int_at hb.out hlt
      have HX := Lib.hid hs
      have HCX := Lib.hid (HC.out wx x hb.out (mem_of hs))
      subst ea
      clear hs
      cases h1 : p x with
      | true =>
        go_wp2_with (first
          | (go_at_call 40; refine HCX.out.mono ?_; rintro e w2 ⟨rfl, bl⟩; rw [h1]; have HX2 := Lib.hid bl; clear bl))
        go_ret
        exact ⟨(k : Int), rfl, .inr ⟨k, x, rfl, HX.out, h1, hall.out⟩, below_thenB hb.out hb.out.size HX2.out⟩
      | false =>
        have HALL : Hid (∀ x ∈ L.take (k + 1), p x = false) := Lib.hid (fun y hy => by
          rw [take_next HX.out] at hy
          rcases List.mem_append.1 hy with h | h
          · exact hall.out y h
          · rw [List.mem_singleton.1 h]; exact h1)
        go_wp2_with (first
          | (go_at_call 40; refine HCX.out.mono ?_; rintro e w2 ⟨rfl, bl⟩; rw [h1]; have HX2 := Lib.hid bl; clear bl))
        go_roundw
        case rel => exact ⟨k + 1, by omega, by go_num, HALL, Lib.hid (below_thenB hb.out hb.out.size HX2.out)⟩
        case measure => simp [intOf]; omega
    · obtain rfl : k = n := by omega
      go_wp2_with fail
      go_ret
      exact ⟨-1, rfl, .inl ⟨rfl, fun x hx => hall.out x (by rw [take_end HL.out]; exact hx)⟩, hb.out⟩
theorem cont_oth (A : Option Addr) (n c : Nat) (L : List (Int)) (p : Int → Bool) (pa : Value) (w : World) (hL : LS rInt 1 8 w A n c L)
    (hc : ∀ (w1 : World) (x : Int), Below w.heap.size w w1 → x ∈ L → Calls Tryz.prog 40 #[.int .i64 x, pa] w1 fun e w' => e = .returned (.bool (p x)) ∧ Below w1.heap.size w1 w') :
    Calls Tryz.prog 39 #[.slice A n c, .func (.func 40) #[] #[pa]] w fun e w' => e = .returned (.bool (L.any p)) ∧ Below w.heap.size w w' := by
  have H := Lib.hid hL
  have HC := Lib.hid hc
  clear hL hc
  go_enter Tryz.func39, Tryz.ntmps39
  go_wp2_with (first
    | (go_at_call 63; refine (idx_oth A n c L p pa w H.out HC.out).mono ?_; rintro e w1 ⟨r, rfl, h1, h2⟩; have HI := Lib.hid (idx_any h1); have HB := Lib.hid h2; clear h1 h2))
  go_ret
  exact ⟨by rw [← HI.out]; rfl, HB.out⟩
theorem want_any (g bm : Nat) (S : List (List UInt8)) (x : List UInt8) (w : World) (hc : BL w g 46 [.map (some bm)]) (hm : MG Tryz.prog 9 usC (.bool false) w bm (fun y => .bool (hasB S y))) (hx : x.length ≤ reachBytes) :
    Calls Tryz.prog 38 #[.string (strB x), .pointer (some ⟨g, 0, none⟩)] w fun e w' => e = .returned (.bool (hasB S x)) ∧ Below w.heap.size w w' := by
  have q0 := hc.get (j := 0) rfl
  have HM := Lib.hid hm
  have HK := Lib.hid (keyS x (reach_key hx))
  clear hc hm
  obtain ⟨B, hB⟩ : ∃ B, B = hasB S x := ⟨_, rfl⟩
  rw [← hB]
  have HB := Lib.hid hB
  clear hB
  go_enter Tryz.func38, Tryz.ntmps38
  go_wp2_with (first
    | ((with_reducible show wpList _ _ _ (⟨some 6, _, _, _, _, _⟩ :: _) _ _); refine wpList_lookGv _ rfl (.tmp 4) (.tmp 5) 46 9 4 rfl strKeyed mapSB (.bool false) boolZero bm _ rfl HM.out x rfl HK.out (.bool B) (by rw [HB.out]) ?_))
  go_ret
  exact ⟨rfl, Below.refl _ _⟩
theorem oth_any (g : Nat) (cs : List Value) (p : Pp) (x : Int) (w : World) (hc : BL w g 34 cs) (hp : rPp w cs p) :
    Calls Tryz.prog 40 #[.int .i64 x, .pointer (some ⟨g, 0, none⟩)] w fun e w' => e = .returned (.bool (!p.ws.contains x)) ∧ Below w.heap.size w w' := by
  obtain ⟨A1, n1, c1, A2, n2, c2, rfl, hl1, _⟩ := hp
  have q0 := hc.get (j := 3) rfl
  have H := Lib.hid hl1
  clear hc hl1
  cases f1 : p.ws.contains x <;>
  · go_enter Tryz.func40, Tryz.ntmps40
    go_wp2_with (first
      | (go_at_call 31; refine (contains_any A1 n1 c1 p.ws x w H.out).mono ?_; rintro e w3 ⟨rfl, hw⟩; rw [hw, f1]; clear hw w3))
    go_ret
    exact ⟨rfl, Below.refl _ _⟩
/-- The reply's kind. -/
def replyK (p : Pp) (need : List (List UInt8)) (wrs : List Int) : Int := if p.ss.any (fun s => hasB need s) then 5 else if wrs.any (fun x => !p.ws.contains x) then 5 else 4
theorem reply_kind (cs : List Value) (p : Pp) (A : Option Addr) (n c : Nat) (need : List (List UInt8)) (B' : Option Addr) (m d : Nat) (wrs : List Int) (w : World) (hp : rPp w cs p) (hA : LS rStr 1 16 w A n c need) (hB : LS rInt 1 8 w B' m d wrs) :
    Calls Tryz.prog 14 #[.agg cs.toArray, .slice A n c, .slice B' m d] w fun e w' => e = .returned (.int .i64 (replyK p need wrs)) ∧ Below w.heap.size w w' := by
  have H := Lib.hid hp
  have hn := hA.len_le
  have HA := Lib.hid hA
  have HLN := Lib.hid hA.1
  have HB := Lib.hid hB
  obtain ⟨A1, n1, c1, A2, n2, c2, rfl, _, hl2, _⟩ := hp
  have HS := Lib.hid hl2
  clear hA hB hl2
  go_enter Tryz.func14, Tryz.ntmps14
  go_wp2_with (first
    | ((with_reducible show wpList _ _ _ (⟨some 3, _, _, _, _, _⟩ :: _) _ _); refine wpList_box _ rfl 34 (.tmp 0) rfl (ppC p A1 n1 c1 A2 n2 c2) rfl ?_; intro w1 y1 y2 y3; have HP1 := Lib.hid y1; have HB1 := Lib.hid y2; clear y1 y2 y3)
    | ((with_reducible show wpList _ _ _ (⟨some 12, _, _, _, _, _⟩ :: _) _ _); refine wpList_makeGs (enc := usC) _ rfl 46 9 4 (.tmp 11) rfl mapSB (n : Int) rfl (.bool false) ?_; intro w2 y1 y2 y3; have HM2 := Lib.hid y1; have HP2 := Lib.hid (HP1.out.kept y2); have HB2 := Lib.hid (below_then HB1.out y2); clear y1 y2 y3)
    | ((with_reducible show wpList _ _ _ (⟨some 7, _, _, _, _, _⟩ :: _) _ _); refine wpList_alloc1 _ rfl 46 rfl (.map none) (by kernel_rfl) rfl ?_; intro w3 y1 y2 y3; have HC3 := Lib.hid y1; have HM3 := Lib.hid (HM2.out.kept y2); have HP3 := Lib.hid (HP2.out.kept y2); have HB3 := Lib.hid (below_then HB2.out y2); clear y1 y2 y3)
    | ((with_reducible show wpList _ _ _ (⟨none, _, _, _, _, _⟩ :: _) _ _); refine wpList_store1 _ rfl 46 (.tmp 7) (.tmp 12) rfl (sz1 _ (by kernel_rfl) _) w2.heap.size 0 _ _ (.map (some w1.heap.size)) rfl rfl HC3.out rfl rfl (by simp) ?_; intro w4 y1 y2 y3; have HC4 := Lib.hid y1; have HP4 := Lib.hid (y2.bl HP3.out (HP3.out.ne HC3.out (by decide))); have HM4 := Lib.hid (HM3.out.kp y2 (HM3.out.ne_bl HC3.out).symm); have HB4 := Lib.hid (low_kp HB3.out y2 (fun i hi e => by have := HB2.out.size; omega)); clear y1 y2 y3))
  go_loopw [15] (fun iv wr => ∃ k : Nat, k ≤ n ∧ iv = .int .i64 (k : Int) ∧ Hid (MG Tryz.prog 9 usC (.bool false) wr w1.heap.size (fun y => .bool (hasB (need.take k) y))) ∧ Hid (Kp (· = w1.heap.size) w4 wr)) (fun iv _ => n - (intOf iv).toNat)
  case atStart => exact ⟨0, by omega, rfl, HM4, Lib.hid (Kp.refl _ _)⟩
  case round =>
    obtain ⟨k, hk, rfl, hm, hkp⟩ := hrel
    obtain ⟨wx, hwx⟩ : ∃ x, x = wr := ⟨_, rfl⟩
    rw [← hwx] at hm hkp ⊢
    clear hwx
    have HBx : Hid (Below w.heap.size w wx) := Lib.hid (low_kp HB4.out hkp.out (fun i hi e => by have := HB1.out.size; omega))
    have HCx := Lib.hid (hkp.out.bl HC4.out (HM4.out.ne_bl HC4.out))
    have q1 := HCx.out.get (j := 0) rfl
    by_cases hlt : k < n
    · obtain ⟨x, g, o, hs, ea, q0⟩ := HA.out.str_at HBx.out hlt
      have HX := Lib.hid hs
      have HKS := Lib.hid (keyS x (reach_key (HA.out.str_ok hs)))
      subst ea
      clear hs
      go_wp2_with (first
        | ((with_reducible show wpList _ _ _ (⟨none, _, _, _, _, _⟩ :: _) _ _); refine wpList_updG _ (fun x y h => usC_in h) rfl (.tmp 19) (.tmp 20) (.const (.bool true)) 46 9 4 rfl strKeyed mapSB (.bool false) w1.heap.size _ rfl hm.out x (.bool true) rfl rfl HKS.out ?_; intro w5 y1 y2 y3; have HM5 := Lib.hid y1; have HK5 := Lib.hid y2; clear y1 y2 y3))
      go_roundw
      case rel =>
        refine ⟨k + 1, by omega, by go_num, Lib.hid (HM5.out.to (fun y => ?_)), Lib.hid (hkp.out.trans HK5.out)⟩
        rw [hasB_step HX.out]
        by_cases hy : y = x
        · subst hy; simp
        · rw [if_neg hy, beq_eq_false_iff_ne.2 (fun e => hy e.symm), Bool.or_false]
      case measure => simp [intOf]; omega
    · obtain rfl : k = n := by omega
      rw [take_end HLN.out] at hm
      have HPx := Lib.hid (hkp.out.bl HP4.out (HM4.out.ne_bl HP4.out))
      have q2 := HPx.out.get (j := 4) rfl
      cases f1 : p.ss.any (fun s => hasB need s) with
      | true =>
        go_wp2_with (first
          | (go_at_call 37; refine (cont_want A2 n2 c2 p.ss (fun s => hasB need s) _ wx (HS.out.kept stay_str HBx.out) (fun w1 x h1 h2 => want_any _ _ need x w1 (HCx.out.kept h1) (hm.out.kept h1) (HS.out.str_mem h2))).mono ?_; rintro e w6 ⟨rfl, x1⟩; rw [f1]; have HB6 := Lib.hid (below_thenB HBx.out HBx.out.size x1); clear x1))
        go_ret
        exact ⟨by rw [replyK, f1]; rfl, HB6.out⟩
      | false =>
        cases f2 : wrs.any (fun x => !p.ws.contains x) <;>
        · go_wp2_with (first
            | (go_at_call 37; refine (cont_want A2 n2 c2 p.ss (fun s => hasB need s) _ wx (HS.out.kept stay_str HBx.out) (fun w1 x h1 h2 => want_any _ _ need x w1 (HCx.out.kept h1) (hm.out.kept h1) (HS.out.str_mem h2))).mono ?_; rintro e w6 ⟨rfl, x1⟩; rw [f1]; have HP6 := Lib.hid (HPx.out.kept x1); have HB6 := Lib.hid (below_thenB HBx.out HBx.out.size x1); clear x1)
            | (go_at_call 39; refine (cont_oth B' m d wrs (fun x => !p.ws.contains x) _ w6 (HB.out.kept stay_int HB6.out) (fun w1 x h1 h2 => oth_any _ _ p x w1 (HP6.out.kept h1) (stay_pp _ _ _ _ H.out (below_thenB HB6.out HB6.out.size h1)))).mono ?_; rintro e w7 ⟨rfl, x1⟩; rw [f2]; have HB7 := Lib.hid (below_thenB HB6.out HB6.out.size x1); clear x1))
          go_ret
          exact ⟨by rw [replyK, f1, f2]; rfl, HB7.out⟩
end
end Go.Proofs.YtgoefpbicohkfaaGreatDoor
