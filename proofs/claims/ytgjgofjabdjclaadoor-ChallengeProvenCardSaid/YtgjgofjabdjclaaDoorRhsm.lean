/- The reference's spots: plain; contract of ref44.has. -/
import Derived.Test.YtgjgofjabdjclaaDoorA18
import Derived.LoopTactic
namespace Go.Proofs.YtgjgofjabdjclaaDoor
open Go Go.RowKit Gf Sha

/-- The selected numbers below b, ascending. -/
def selF (S : List Nat) (b : Nat) : List Nat := (List.range b).filter fun x => S.contains x
theorem selF_succ (S : List Nat) (b : Nat) : selF S (b + 1) = selF S b ++ (if S.contains b then [b] else []) := by
  rw [selF, selF, List.range_succ, List.filter_append]
  congr 1
  by_cases h : S.contains b = true
  · rw [if_pos h, List.filter_cons_of_pos (by exact h)]; rfl
  · rw [if_neg h, List.filter_cons_of_neg (by exact h)]; rfl
theorem selF_mem {S : List Nat} {b x : Nat} : x ∈ selF S b ↔ x < b ∧ x ∈ S := by
  simp [selF]
theorem selF_asc (S : List Nat) (b : Nat) : (selF S b).Pairwise (· < ·) := List.Pairwise.filter _ (List.pairwise_lt_range)
theorem asc_ext : ∀ {l1 l2 : List Int}, l1.Pairwise (· < ·) → l2.Pairwise (· < ·) → (∀ x, x ∈ l1 ↔ x ∈ l2) → l1 = l2
  | [], [], _, _, _ => rfl
  | [], y :: _, _, _, h => absurd ((h y).2 (by simp)) (by simp)
  | x :: _, [], _, _, h => absurd ((h x).1 (by simp)) (by simp)
  | x :: l1, y :: l2, h1, h2, h => by
    rw [List.pairwise_cons] at h1 h2
    have e : x = y := by
      have hx := (h x).1 (by simp)
      have hy := (h y).2 (by simp)
      rw [List.mem_cons] at hx hy
      rcases hx with hx | hx
      · exact hx
      · rcases hy with hy | hy
        · exact hy.symm
        · have := h1.1 y hy; have := h2.1 x hx; omega
    subst e
    congr 1
    refine asc_ext h1.2 h2.2 (fun z => ⟨fun hz => ?_, fun hz => ?_⟩)
    · have h3 := (h z).1 (by simp [hz])
      rw [List.mem_cons] at h3
      rcases h3 with rfl | h3
      · have := h1.1 z hz; omega
      · exact h3
    · have h3 := (h z).2 (by simp [hz])
      rw [List.mem_cons] at h3
      rcases h3 with rfl | h3
      · have := h2.1 z hz; omega
      · exact h3
/-- All the selected, ascending, are the spots. -/
theorem sel_spots (nonce : List UInt8) {b c : Nat} (h : c ≤ b) : intsN (selF (spK nonce (b - c) c) b) = spotsL nonce b c := by
  refine asc_ext ?_ (spotsL_asc nonce b c) (fun x => ?_)
  · rw [intsN, List.pairwise_map]
    exact (selF_asc _ _).imp (fun h => by omega)
  · rw [(spotsL_perm nonce b c).mem_iff]
    constructor
    · intro hx
      obtain ⟨n, hn, rfl⟩ := List.mem_map.1 hx
      exact List.mem_map.2 ⟨n, (selF_mem.1 hn).2, rfl⟩
    · intro hx
      obtain ⟨n, hn, rfl⟩ := List.mem_map.1 hx
      refine List.mem_map.2 ⟨n, selF_mem.2 ⟨?_, hn⟩, rfl⟩
      have := spK_lt nonce (b - c) c n hn
      omega
theorem sel_length (nonce : List UInt8) {b c : Nat} (h : c ≤ b) : (selF (spK nonce (b - c) c) b).length = c := by
  have h1 := congrArg List.length (sel_spots nonce h)
  rw [spotsL_length, intsN, List.length_map] at h1
  exact h1
/-- The first of them. -/
theorem sel_prefix (S : List Nat) {k b : Nat} (h : k ≤ b) : ∃ r, selF S b = selF S k ++ r := by
  induction b with
  | zero => obtain rfl : k = 0 := by omega
            exact ⟨[], by simp⟩
  | succ b ih =>
    by_cases hk : k = b + 1
    · subst hk; exact ⟨[], by simp⟩
    · obtain ⟨r, hr⟩ := ih (by omega)
      exact ⟨r ++ (if S.contains b then [b] else []), by rw [selF_succ, hr, List.append_assoc]⟩
theorem sel_full {S : List Nat} {k b c : Nat} (h : k ≤ b) (hb : (selF S b).length = c) (hk : (selF S k).length = c) : selF S k = selF S b := by
  obtain ⟨r, hr⟩ := sel_prefix S h
  have h1 := congrArg List.length hr
  rw [List.length_append] at h1
  obtain rfl : r = [] := List.eq_nil_of_length_eq_zero (by omega)
  rw [hr, List.append_nil]

set_option maxRecDepth 100000 in
set_option maxHeartbeats 1000000 in
theorem rhas_any (v : Value) (n : Nat) (l : List Nat) (t : Nat) (w : World) (h : RW w 3 1 v n ((intsN l).map (Value.int .i64))) (hl : l.length = n) (hn : n ≤ 100000) :
    Calls Tryd.prog 53 #[v, .int .i64 (t : Int)] w fun e w' => e = .returned (.bool (l.contains t)) ∧ w = w' := by
  obtain ⟨A, c, rfl, _⟩ := h.form
  have H := Lib.hid h
  have hn0 : 0 ≤ (n : Int) := by omega
  clear h
  go_enter Tryd.func53, Tryd.ntmps53
  go_wp2_with fail
  go_loop [9] (fun i => ∃ k : Nat, k ≤ n ∧ i = .int .i64 (k : Int) ∧ Hid (∀ j (hj : j < l.length), j < k → l[j] ≠ t)) (fun i => n - (intOf i).toNat)
  case atStart => exact ⟨0, by omega, rfl, Lib.hid (fun j _ h => by omega)⟩
  case round =>
    obtain ⟨k, hk, rfl, ha⟩ := hrel
    by_cases hlt : k < n
    · obtain ⟨g, o, c', e, _, hat⟩ := H.out.at_ (by omega)
      cases e
      have hkl : k < l.length := by omega
      obtain ⟨y, hy⟩ : ∃ y, l[k] = y := ⟨_, rfl⟩
      have cx : w.cell? ⟨g, o + k, none⟩ = some (.int .i64 (y : Int)) := hat k _ (by rw [List.getElem?_map, intsN, List.getElem?_map, List.getElem?_eq_getElem hkl, hy]; rfl)
      clear hat
      by_cases he : y = t
      · have HC : Hid (l.contains t = true) := Lib.hid (by simp only [List.contains_iff_mem]; rw [← he, ← hy]; exact List.getElem_mem hkl)
        have q : ((y : Int) == (t : Int)) = true := by rw [he]; simp
        clear he hy
        go_wp2_with fail
        go_ret
        exact ⟨ret_bool (by have h := HC.out; simp at h ⊢; exact h), rfl⟩
      · have HA : Hid (∀ j (hj : j < l.length), j < k + 1 → l[j] ≠ t) := Lib.hid (fun j hj h => by
          by_cases hjk : j = k
          · subst hjk; rw [hy]; exact he
          · exact ha.out j hj (by omega))
        have q : ((y : Int) == (t : Int)) = false := by rw [beq_eq_false_iff_ne]; omega
        clear he hy
        go_wp2_with fail
        go_round
        case rel => exact ⟨k + 1, by omega, by go_num, HA⟩
        case measure => simp [intOf]; omega
    · obtain rfl : k = n := by omega
      have HC : Hid (l.contains t = false) := Lib.hid (by
        rw [Bool.eq_false_iff]
        intro h
        simp only [List.contains_iff_mem] at h
        obtain ⟨j, hj, e⟩ := List.mem_iff_getElem.1 h
        exact ha.out j hj (by omega) e)
      go_wp2_with fail
      go_ret
      exact ⟨ret_bool (by have h := HC.out; simp at h ⊢; exact h), rfl⟩
end Go.Proofs.YtgjgofjabdjclaaDoor
