/- Plainly: what a writer of the town proposes is valid. -/
import Derived.Test.YtfonbliomokffaaGreatZhm
namespace Go.Proofs.YtfonbliomokffaaGreat
open Go Gf

/-- The stripes of an act that its writer does not need, up to the k-th. -/
def propK (T : Tn) (u : Nat) (m : Nat → Bool) (k : Nat) : List (List UInt8) := ((List.range k).filter fun s => m s && !T.nd (8 * u + s)).map sid
theorem propK_step (T : Tn) (u : Nat) (m : Nat → Bool) (k : Nat) : propK T u m (k + 1) = propK T u m k ++ (if m k && !T.nd (8 * u + k) then [sid k] else []) := by
 unfold propK
 rw [List.range_succ, List.filter_append, List.map_append]
 congr 1
 rw [List.filter_cons]
 split <;> rfl
theorem propK_len (T : Tn) (u : Nat) (m : Nat → Bool) (k : Nat) : (propK T u m k).length ≤ k := by
 unfold propK
 rw [List.length_map]
 exact Nat.le_trans (List.length_filter_le _ _) (by rw [List.length_range]; exact Nat.le_refl _)
theorem sid_less : ∀ a, a < 8 → ∀ b, b < 8 → a < b → Op.bytesLess (sid a) (sid b) = true := by decide
theorem sid_inj {a b : Nat} (ha : a < 8) (hb : b < 8) (h : sid a = sid b) : a = b := by
 have key : ∀ a, a < 8 → ∀ b, b < 8 → sid a = sid b → a = b := by decide
 exact key a ha b hb h
theorem propK_not {T : Tn} {u : Nat} {m : Nat → Bool} {s : Nat} (hs : s < 8) (h : sid s ∈ propK T u m 8) : T.nd (8 * u + s) = false := by
 obtain ⟨a, ha, e⟩ := List.mem_map.1 h
 rw [List.mem_filter, List.mem_range, Bool.and_eq_true, Bool.not_eq_true'] at ha
 obtain rfl := sid_inj ha.1 hs e
 exact ha.2.2
theorem asc_pw {m : List (List UInt8)} (h1 : ∀ x ∈ m, x.length = 32) (h2 : m.Pairwise (fun a b => Op.bytesLess a b = true)) : ascB m = true := asc_true (fun k hk => by
 unfold ascAt
 rw [gR_eq hk, decide_eq_true (h1 _ (List.getElem_mem hk)), Bool.true_and, Bool.or_eq_true, decide_eq_true_eq]
 rcases Nat.eq_zero_or_pos k with h0 | h0
 ·
  exact .inl h0
 ·
  right
  rw [gR_eq (by omega)]
  exact List.pairwise_iff_getElem.1 h2 (k - 1) k (by omega) hk (by omega))
theorem ws_pw {m : List Int} (h1 : ∀ x ∈ m, 0 ≤ x ∧ x < 12) (h2 : m.Pairwise (· < ·)) : wsB m = true := ws_true (fun k hk => by
 have h3 := h1 _ (List.getElem_mem hk)
 unfold wAt
 rw [gI_eq hk, decide_eq_true h3.1, decide_eq_true h3.2, Bool.true_and, Bool.true_and, Bool.or_eq_true, decide_eq_true_eq, decide_eq_true_eq]
 rcases Nat.eq_zero_or_pos k with h0 | h0
 ·
  exact .inl h0
 ·
  right
  rw [gI_eq (by omega)]
  exact List.pairwise_iff_getElem.1 h2 (k - 1) k (by omega) hk (by omega))
theorem range_pw (n : Nat) : (List.range n).Pairwise (· < ·) := List.pairwise_lt_range
/-- The proposal of a writer. -/
def propP (T : Tn) (u : Nat) (m : Nat → Bool) : Pp := ⟨(u : Int), ((T.lg u).length : Int) + 1, 0, T.known u, propK T u m 8⟩
/-- The town after a proposal. -/
def Tn.propC (T : Tn) (u : Nat) (m : Nat → Bool) : Tn := if propK T u m 8 = [] then T else T.log u 3 (bodyL (propP T u m))
theorem prop_valid {T : Tn} {u : Nat} (hu : u < 3) (hwr : T.wr (3 * u + u) = true) (m : Nat → Bool) (h : propK T u m 8 ≠ []) : validB (propP T u m) = true := by
 have k1 : (T.known u).length ≤ 3 := knownK_len T u 3
 have k2 : (u : Int) ∈ T.known u := mem_known.2 ⟨hu, hwr, .inl rfl⟩
 have k3 := propK_len T u m 8
 have k4 : wsB (T.known u) = true := by
  refine ws_pw (fun x hx => ?_) ?_
  ·
   obtain ⟨a, ha, e⟩ := List.mem_map.1 hx
   have := (List.mem_filter.1 ha).1
   rw [List.mem_range] at this
   omega
  ·
   unfold Tn.known
   rw [List.pairwise_map]
   exact ((range_pw 3).sublist List.filter_sublist).imp (fun {a b} h => by omega)
 have k5 : ascB (propK T u m 8) = true := by
  refine asc_pw (fun x hx => ?_) ?_
  ·
   obtain ⟨a, ha, e⟩ := List.mem_map.1 hx
   rw [← e]; exact sid_len a
  ·
   unfold propK
   rw [List.pairwise_map, List.pairwise_filter]
   refine (List.Pairwise.and_mem.1 (range_pw 8)).imp (fun {a b} h _ _ => ?_)
   exact sid_less a (List.mem_range.1 h.1) b (List.mem_range.1 h.2.1) h.2.2
 unfold validB headB propP
 simp only []
 rw [k4, k5, List.contains_iff_mem.2 k2, decide_eq_true (show (1 : Int) ≤ ((T.lg u).length : Int) + 1 by omega), decide_eq_true k1, decide_eq_true (show 1 ≤ (propK T u m 8).length from List.length_pos_iff.2 h), decide_eq_true (show (propK T u m 8).length ≤ 1024 by omega)]
 rfl
end Go.Proofs.YtfonbliomokffaaGreat
