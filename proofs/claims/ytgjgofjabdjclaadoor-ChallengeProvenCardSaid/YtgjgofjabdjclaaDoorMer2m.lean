/- Contracts of merkle.climb, merkle.Verify, merkle.See and of the reference's up, Verify, See. -/
import Derived.Test.YtgjgofjabdjclaaDoorMer1m
namespace Go.Proofs.YtgjgofjabdjclaaDoor
open Go Go.RowKit Gf Sha

/-- The root out of a leaf and a path (from above). -/
def upR (leaf : List UInt8) : Nat → Nat → List (List UInt8) → List UInt8 × Bool
  | _, n, [] => if n = 1 then (leaf, true) else ([], false)
  | i, n, last :: rest =>
    if n = 1 then (leaf, false)
    else if i < spl n then (mnode (upR leaf i (spl n) rest).1 last, (upR leaf i (spl n) rest).2)
    else (mnode last (upR leaf (i - spl n) (n - spl n) rest).1, (upR leaf (i - spl n) (n - spl n) rest).2)
theorem mnode_length (l r : List UInt8) : (mnode l r).length = 32 := sha_length _
theorem mleaf_length (l : List UInt8) : (mleaf l).length = 32 := sha_length _
theorem upR_length {leaf : List UInt8} (h : leaf.length ≤ 32) : ∀ (r : List (List UInt8)) (i n : Nat), (upR leaf i n r).1.length ≤ 32 := by
  intro r
  induction r with
  | nil => intro i n; rw [upR]; split <;> simp [h]
  | cons a r ih =>
    intro i n
    rw [upR]
    split
    · exact h
    · split
      · rw [mnode_length]; exact Nat.le_refl _
      · rw [mnode_length]; exact Nat.le_refl _
theorem TS.pre {w : World} {A : Option Addr} {n c : Nat} {m : List (List UInt8)} (h : TS w A n c m) {k : Nat} (hk : k ≤ n) : TS w A k c (m.take k) := by
  refine ⟨by rw [List.length_take, h.1]; omega, by have := h.2.1; omega, by have := h.2.2.1; omega, fun j hj => ?_⟩
  have h1 := h.2.2.2 j (by omega)
  have h2 : gR (m.take k) j = gR m j := by
    rw [gR_eq (by rw [List.length_take, h.1]; omega), gR_eq (by rw [h.1]; omega), List.getElem_take]
  show ∃ g o, A = some ⟨g, o, none⟩ ∧ w.cell? ⟨g, o + j, none⟩ = some (.string (strB (gR (m.take k) j)))
  rw [h2]
  exact h1
theorem rev_take (a : List UInt8) (r : List (List UInt8)) : (a :: r).reverse.take r.length = r.reverse := by
  rw [List.reverse_cons]
  exact List.take_left' (by simp)
theorem rev_get (a : List UInt8) (r : List (List UInt8)) : gR (a :: r).reverse r.length = a := by
  rw [gR_eq (by simp), List.getElem_reverse]
  simp

set_option maxRecDepth 100000 in
set_option maxHeartbeats 2000000 in
theorem climb_any (leaf : List UInt8) (hleaf : leaf.length ≤ 32) : ∀ (r : List (List UInt8)) (i n : Nat) (A : Option Addr) (c : Nat) (w : World), TS w A r.length c r.reverse → Tabs w → (∀ x ∈ r, x.length = 32) → i < n → n ≤ 256 →
    Calls Tryd.prog 116 #[.string (strB leaf), .int .i64 (i : Int), .int .i64 (n : Int), .slice A r.length c] w fun e w' => e = .returned (.tuple #[.string (strB (upR leaf i n r).1), .bool (upR leaf i n r).2]) ∧ Below w.heap.size w w' := by
  intro r
  induction r with
  | nil =>
    intro i n A c w h hT h32 hi hn
    rw [List.length_nil]
    by_cases h1 : n = 1
    · have e1 : upR leaf i n [] = (leaf, true) := by rw [upR, if_pos h1]
      rw [e1]
      subst h1
      clear h hT
      go_enter Tryd.func116, Tryd.ntmps116
      go_wp2_with fail
      go_ret2
      exact ⟨rfl, Below.refl _ _⟩
    · have e1 : upR leaf i n [] = ([], false) := by rw [upR, if_neg h1]
      have e2 : ((n : Int) == 1) = false := by simpa using (by omega : ¬ (n : Int) = 1)
      rw [e1]
      clear h hT
      go_enter Tryd.func116, Tryd.ntmps116
      go_wp2_with fail
      go_ret2
      exact ⟨rfl, Below.refl _ _⟩
  | cons last rest ih =>
    intro i n A c w h hT h32 hi hn
    have hk : (rest.length + 1) * 16 ≤ 140737488355328 := by have := h.2.2.1; unfold lim at this; simpa using this
    have hcap : rest.length + 1 ≤ c := by simpa using h.2.1
    rw [List.length_cons] at h ⊢
    by_cases h1 : n = 1
    · have e1 : upR leaf i n (last :: rest) = (leaf, false) := by rw [upR, if_pos h1]
      rw [e1]
      have e3 : (((rest.length + 1 : Nat) : Int) == 0) = false := by simpa using (by omega : ¬ ((rest.length : Int) + 1) = 0)
      obtain ⟨m, hm⟩ : ∃ m, m = rest.length + 1 := ⟨_, rfl⟩
      rw [← hm] at e3 hk hcap ⊢
      subst h1
      clear h hT h32 ih hm
      go_enter Tryd.func116, Tryd.ntmps116
      go_wp2_with fail
      go_ret2
      exact ⟨rfl, Below.refl _ _⟩
    · obtain ⟨s1, s2, s3, _, _⟩ := spl_parts (n := n) (by omega) hn
      have e2 : ((n : Int) == 1) = false := by simpa using (by omega : ¬ (n : Int) = 1)
      have e3 : (((rest.length + 1 : Nat) : Int) == 0) = false := by simpa using (by omega : ¬ ((rest.length : Int) + 1) = 0)
      have HP : Hid (TS w A rest.length c rest.reverse) := Lib.hid (by have := h.pre (k := rest.length) (by omega); rw [rev_take] at this; exact this)
      have hq := h.2.2.2 rest.length (by omega)
      replace hq : ∃ g o, A = some ⟨g, o, none⟩ ∧ w.cell? ⟨g, o + rest.length, none⟩ = some (.string (strB (gR (last :: rest).reverse rest.length))) := hq
      rw [rev_get] at hq
      obtain ⟨g, o, rfl, q1⟩ := hq
      have HT := Lib.hid hT
      have HLL : Hid (last.length = 32) := Lib.hid (h32 last (by simp))
      have HRR : Hid (∀ x ∈ rest, x.length = 32) := Lib.hid (fun x hx => h32 x (List.mem_cons_of_mem _ hx))
      obtain ⟨k, hk2⟩ : ∃ k, k = spl n := ⟨_, rfl⟩
      rw [← hk2] at s1 s2 s3
      have HKS := Lib.hid hk2.symm
      have e1 : upR leaf i n (last :: rest) = if i < k then (mnode (upR leaf i k rest).1 last, (upR leaf i k rest).2) else (mnode last (upR leaf (i - k) (n - k) rest).1, (upR leaf (i - k) (n - k) rest).2) := by rw [upR, if_neg h1, hk2]
      rw [e1]
      have q1' : w.drew.cell? ⟨g, o + rest.length, none⟩ = some (.string (strB last)) := q1
      have IH := Lib.hid ih
      obtain ⟨m, hm⟩ : ∃ m, m = rest.length + 1 := ⟨_, rfl⟩
      obtain ⟨m0, hm0⟩ : ∃ m0, m0 = rest.length := ⟨_, rfl⟩
      have hmi : (m : Int) = (m0 : Int) + 1 := by omega
      have hw0 := wrapI m0 (by omega)
      have hw1 : (m0 : Int) ≤ (c : Int) := by omega
      have hw2 : (m0 : Int) < (m0 : Int) + 1 := by omega
      rw [← hm0] at HP q1 q1'
      rw [← hm] at e3 hk hcap ⊢
      have HM0 := Lib.hid hm0.symm
      clear h hT h32 ih e1 hk2 hm0 hm
      by_cases hlt : i < k
      · rw [if_pos hlt]
        have HUL : Hid ((upR leaf i k rest).1.length ≤ 1048576) := Lib.hid (by have := upR_length hleaf rest i k; omega)
        have HUL2 : Hid ((upR leaf i k rest).1.length ≤ 1000) := Lib.hid (by have := upR_length hleaf rest i k; omega)
        obtain ⟨U, hU⟩ : ∃ U, U = upR leaf i k rest := ⟨_, rfl⟩
        rw [← hU] at HUL HUL2 ⊢
        have HUU := Lib.hid hU.symm
        clear hU
        go_enter Tryd.func116, Tryd.ntmps116
        go_wp2_with fail
        refine Text.wp_region_text (fun _ => True) [(0, 4), (1, 4), (2, 4), (3, 4), (4, 4), (5, 4), (6, 4), (7, 4), (8, 4), (9, 4), (11, 4), (10, 1), (12, 4)] (by kernel_rfl) (by kernel_rfl) (fun _ _ _ _ _ h => h) (trivial) ?_
        iterate 11 (refine Text.purek rfl rfl (fun K hK => ⟨_, fun w' => by go_simp <;> rfl, ?_⟩); go_simp; refine hK _ ?_; clear hK K)
        (refine Text.readk rfl rfl (fun K hK => ⟨_, by go_simp <;> rfl, ?_⟩); go_simp; refine hK _ ?_; clear hK K)
        (refine Text.purek rfl rfl (fun K hK => ⟨_, fun w' => by go_simp <;> rfl, ?_⟩); go_simp; refine hK _ ?_; clear hK K)
        refine Text.done ?_
        go_wp2_with (first
          | (go_at_call 96; refine (split_any n _ (by omega) hn).mono ?_; rintro e w1 ⟨rfl, rfl⟩; rw [HKS.out])
          | (go_at_call 116; rw [← HM0.out]; refine (IH.out i k _ c _ (by rw [HM0.out]; exact HP.out.drew) HT.out.drew HRR.out hlt (by omega)).mono ?_; rintro e w2 ⟨rfl, b2⟩; rw [HUU.out]; have HB2 : Hid (Below w.heap.size w w2) := Lib.hid (below_ofDrew b2); clear b2)
          | (go_at_call 90; refine ((node_any U.1 last _ (HT.out.kept HB2.out) HUL.out (by rw [HLL.out]; decide))).mono ?_; rintro e w3 ⟨rfl, b3⟩; have HB3 : Hid (Below w.heap.size w w3) := Lib.hid (below_then HB2.out b3); clear b3))
        go_ret2
        exact ⟨rfl, HB3.out⟩
      · rw [if_neg hlt]
        have HUL : Hid ((upR leaf (i - k) (n - k) rest).1.length ≤ 1048576) := Lib.hid (by have := upR_length hleaf rest (i - k) (n - k); omega)
        have HUL2 : Hid ((upR leaf (i - k) (n - k) rest).1.length ≤ 1000) := Lib.hid (by have := upR_length hleaf rest (i - k) (n - k); omega)
        obtain ⟨U, hU⟩ : ∃ U, U = upR leaf (i - k) (n - k) rest := ⟨_, rfl⟩
        rw [← hU] at HUL HUL2 ⊢
        have HUU := Lib.hid hU.symm
        clear hU
        have ei : (i : Int) - (k : Int) = ((i - k : Nat) : Int) := by omega
        have en : (n : Int) - (k : Int) = ((n - k : Nat) : Int) := by omega
        go_enter Tryd.func116, Tryd.ntmps116
        go_wp2_with fail
        refine Text.wp_region_text (fun _ => True) [(0, 4), (1, 4), (2, 4), (3, 4), (4, 4), (5, 4), (6, 4), (7, 4), (8, 4), (9, 4), (11, 4), (10, 1), (12, 4)] (by kernel_rfl) (by kernel_rfl) (fun _ _ _ _ _ h => h) (trivial) ?_
        iterate 11 (refine Text.purek rfl rfl (fun K hK => ⟨_, fun w' => by go_simp <;> rfl, ?_⟩); go_simp; refine hK _ ?_; clear hK K)
        (refine Text.readk rfl rfl (fun K hK => ⟨_, by go_simp <;> rfl, ?_⟩); go_simp; refine hK _ ?_; clear hK K)
        (refine Text.purek rfl rfl (fun K hK => ⟨_, fun w' => by go_simp <;> rfl, ?_⟩); go_simp; refine hK _ ?_; clear hK K)
        refine Text.done ?_
        go_wp2_with (first
          | (go_at_call 96; refine (split_any n _ (by omega) hn).mono ?_; rintro e w1 ⟨rfl, rfl⟩; rw [HKS.out])
          | (go_at_call 116; rw [← HM0.out]; refine (IH.out (i - k) (n - k) _ c _ (by rw [HM0.out]; exact HP.out.drew) HT.out.drew HRR.out (by omega) (by omega)).mono ?_; rintro e w2 ⟨rfl, b2⟩; rw [HUU.out]; have HB2 : Hid (Below w.heap.size w w2) := Lib.hid (below_ofDrew b2); clear b2)
          | (go_at_call 90; refine ((node_any last U.1 _ (HT.out.kept HB2.out) (by rw [HLL.out]; decide) HUL.out)).mono ?_; rintro e w3 ⟨rfl, b3⟩; have HB3 : Hid (Below w.heap.size w w3) := Lib.hid (below_then HB2.out b3); clear b3))
        go_ret2
        exact ⟨rfl, HB3.out⟩
set_option maxRecDepth 100000 in
set_option maxHeartbeats 2000000 in
theorem up_any (leaf : List UInt8) (hleaf : leaf.length ≤ 32) : ∀ (r : List (List UInt8)) (i n : Nat) (A : Option Addr) (c : Nat) (w : World), TS w A r.length c r.reverse → Tabs w → (∀ x ∈ r, x.length = 32) → i < n → n ≤ 256 →
    Calls Tryd.prog 117 #[.string (strB leaf), .int .i64 (i : Int), .int .i64 (n : Int), .slice A r.length c] w fun e w' => e = .returned (.tuple #[.string (strB (upR leaf i n r).1), .bool (upR leaf i n r).2]) ∧ Below w.heap.size w w' := by
  intro r
  induction r with
  | nil =>
    intro i n A c w h hT h32 hi hn
    rw [List.length_nil]
    by_cases h1 : n = 1
    · have e1 : upR leaf i n [] = (leaf, true) := by rw [upR, if_pos h1]
      rw [e1]
      subst h1
      clear h hT
      go_enter Tryd.func117, Tryd.ntmps117
      go_wp2_with fail
      go_ret2
      exact ⟨rfl, Below.refl _ _⟩
    · have e1 : upR leaf i n [] = ([], false) := by rw [upR, if_neg h1]
      have e2 : ((n : Int) == 1) = false := by simpa using (by omega : ¬ (n : Int) = 1)
      rw [e1]
      clear h hT
      go_enter Tryd.func117, Tryd.ntmps117
      go_wp2_with fail
      go_ret2
      exact ⟨rfl, Below.refl _ _⟩
  | cons last rest ih =>
    intro i n A c w h hT h32 hi hn
    have hk : (rest.length + 1) * 16 ≤ 140737488355328 := by have := h.2.2.1; unfold lim at this; simpa using this
    have hcap : rest.length + 1 ≤ c := by simpa using h.2.1
    rw [List.length_cons] at h ⊢
    by_cases h1 : n = 1
    · have e1 : upR leaf i n (last :: rest) = (leaf, false) := by rw [upR, if_pos h1]
      rw [e1]
      have e3 : (((rest.length + 1 : Nat) : Int) == 0) = false := by simpa using (by omega : ¬ ((rest.length : Int) + 1) = 0)
      obtain ⟨m, hm⟩ : ∃ m, m = rest.length + 1 := ⟨_, rfl⟩
      rw [← hm] at e3 hk hcap ⊢
      subst h1
      clear h hT h32 ih hm
      go_enter Tryd.func117, Tryd.ntmps117
      go_wp2_with fail
      go_ret2
      exact ⟨rfl, Below.refl _ _⟩
    · obtain ⟨s1, s2, s3, _, _⟩ := spl_parts (n := n) (by omega) hn
      have e2 : ((n : Int) == 1) = false := by simpa using (by omega : ¬ (n : Int) = 1)
      have e3 : (((rest.length + 1 : Nat) : Int) == 0) = false := by simpa using (by omega : ¬ ((rest.length : Int) + 1) = 0)
      have HP : Hid (TS w A rest.length c rest.reverse) := Lib.hid (by have := h.pre (k := rest.length) (by omega); rw [rev_take] at this; exact this)
      have hq := h.2.2.2 rest.length (by omega)
      replace hq : ∃ g o, A = some ⟨g, o, none⟩ ∧ w.cell? ⟨g, o + rest.length, none⟩ = some (.string (strB (gR (last :: rest).reverse rest.length))) := hq
      rw [rev_get] at hq
      obtain ⟨g, o, rfl, q1⟩ := hq
      have HT := Lib.hid hT
      have HLL : Hid (last.length = 32) := Lib.hid (h32 last (by simp))
      have HRR : Hid (∀ x ∈ rest, x.length = 32) := Lib.hid (fun x hx => h32 x (List.mem_cons_of_mem _ hx))
      obtain ⟨k, hk2⟩ : ∃ k, k = spl n := ⟨_, rfl⟩
      rw [← hk2] at s1 s2 s3
      have HKS := Lib.hid hk2.symm
      have e1 : upR leaf i n (last :: rest) = if i < k then (mnode (upR leaf i k rest).1 last, (upR leaf i k rest).2) else (mnode last (upR leaf (i - k) (n - k) rest).1, (upR leaf (i - k) (n - k) rest).2) := by rw [upR, if_neg h1, hk2]
      rw [e1]
      have q1' : w.drew.cell? ⟨g, o + rest.length, none⟩ = some (.string (strB last)) := q1
      have IH := Lib.hid ih
      obtain ⟨m, hm⟩ : ∃ m, m = rest.length + 1 := ⟨_, rfl⟩
      obtain ⟨m0, hm0⟩ : ∃ m0, m0 = rest.length := ⟨_, rfl⟩
      have hmi : (m : Int) = (m0 : Int) + 1 := by omega
      have hw0 := wrapI m0 (by omega)
      have hw1 : (m0 : Int) ≤ (c : Int) := by omega
      have hw2 : (m0 : Int) < (m0 : Int) + 1 := by omega
      rw [← hm0] at HP q1 q1'
      rw [← hm] at e3 hk hcap ⊢
      have HM0 := Lib.hid hm0.symm
      clear h hT h32 ih e1 hk2 hm0 hm
      by_cases hlt : i < k
      · rw [if_pos hlt]
        have HUL : Hid ((upR leaf i k rest).1.length ≤ 1048576) := Lib.hid (by have := upR_length hleaf rest i k; omega)
        have HUL2 : Hid ((upR leaf i k rest).1.length ≤ 1000) := Lib.hid (by have := upR_length hleaf rest i k; omega)
        obtain ⟨U, hU⟩ : ∃ U, U = upR leaf i k rest := ⟨_, rfl⟩
        rw [← hU] at HUL HUL2 ⊢
        have HUU := Lib.hid hU.symm
        clear hU
        go_enter Tryd.func117, Tryd.ntmps117
        go_wp2_with fail
        refine Text.wp_region_text (fun _ => True) [(0, 4), (1, 4), (2, 4), (3, 4), (4, 4), (6, 4), (7, 4), (8, 4), (9, 4), (10, 4), (5, 1), (11, 4), (12, 4)] (by kernel_rfl) (by kernel_rfl) (fun _ _ _ _ _ h => h) (trivial) ?_
        iterate 10 (refine Text.purek rfl rfl (fun K hK => ⟨_, fun w' => by go_simp <;> rfl, ?_⟩); go_simp; refine hK _ ?_; clear hK K)
        (refine Text.readk rfl rfl (fun K hK => ⟨_, by go_simp <;> rfl, ?_⟩); go_simp; refine hK _ ?_; clear hK K)
        iterate 2 (refine Text.purek rfl rfl (fun K hK => ⟨_, fun w' => by go_simp <;> rfl, ?_⟩); go_simp; refine hK _ ?_; clear hK K)
        refine Text.done ?_
        go_wp2_with (first
          | (go_at_call 126; refine (rsplit_any n _ (by omega) hn).mono ?_; rintro e w1 ⟨rfl, rfl⟩; rw [HKS.out])
          | (go_at_call 117; rw [← HM0.out]; refine (IH.out i k _ c _ (by rw [HM0.out]; exact HP.out.drew) HT.out.drew HRR.out hlt (by omega)).mono ?_; rintro e w2 ⟨rfl, b2⟩; rw [HUU.out]; have HB2 : Hid (Below w.heap.size w w2) := Lib.hid (below_ofDrew b2); clear b2)
          | (go_at_call 127; refine ((rnode_any U.1 last _ HUL2.out (by rw [HLL.out]; decide))).mono ?_; rintro e w3 ⟨rfl, b3⟩; have HB3 : Hid (Below w.heap.size w w3) := Lib.hid (below_then HB2.out b3); clear b3))
        go_ret2
        exact ⟨rfl, HB3.out⟩
      · rw [if_neg hlt]
        have HUL : Hid ((upR leaf (i - k) (n - k) rest).1.length ≤ 1048576) := Lib.hid (by have := upR_length hleaf rest (i - k) (n - k); omega)
        have HUL2 : Hid ((upR leaf (i - k) (n - k) rest).1.length ≤ 1000) := Lib.hid (by have := upR_length hleaf rest (i - k) (n - k); omega)
        obtain ⟨U, hU⟩ : ∃ U, U = upR leaf (i - k) (n - k) rest := ⟨_, rfl⟩
        rw [← hU] at HUL HUL2 ⊢
        have HUU := Lib.hid hU.symm
        clear hU
        have ei : (i : Int) - (k : Int) = ((i - k : Nat) : Int) := by omega
        have en : (n : Int) - (k : Int) = ((n - k : Nat) : Int) := by omega
        go_enter Tryd.func117, Tryd.ntmps117
        go_wp2_with fail
        refine Text.wp_region_text (fun _ => True) [(0, 4), (1, 4), (2, 4), (3, 4), (4, 4), (6, 4), (7, 4), (8, 4), (9, 4), (10, 4), (5, 1), (11, 4), (12, 4)] (by kernel_rfl) (by kernel_rfl) (fun _ _ _ _ _ h => h) (trivial) ?_
        iterate 10 (refine Text.purek rfl rfl (fun K hK => ⟨_, fun w' => by go_simp <;> rfl, ?_⟩); go_simp; refine hK _ ?_; clear hK K)
        (refine Text.readk rfl rfl (fun K hK => ⟨_, by go_simp <;> rfl, ?_⟩); go_simp; refine hK _ ?_; clear hK K)
        iterate 2 (refine Text.purek rfl rfl (fun K hK => ⟨_, fun w' => by go_simp <;> rfl, ?_⟩); go_simp; refine hK _ ?_; clear hK K)
        refine Text.done ?_
        go_wp2_with (first
          | (go_at_call 126; refine (rsplit_any n _ (by omega) hn).mono ?_; rintro e w1 ⟨rfl, rfl⟩; rw [HKS.out])
          | (go_at_call 117; rw [← HM0.out]; refine (IH.out (i - k) (n - k) _ c _ (by rw [HM0.out]; exact HP.out.drew) HT.out.drew HRR.out (by omega) (by omega)).mono ?_; rintro e w2 ⟨rfl, b2⟩; rw [HUU.out]; have HB2 : Hid (Below w.heap.size w w2) := Lib.hid (below_ofDrew b2); clear b2)
          | (go_at_call 127; refine ((rnode_any last U.1 _ (by rw [HLL.out]; decide) HUL2.out)).mono ?_; rintro e w3 ⟨rfl, b3⟩; have HB3 : Hid (Below w.heap.size w w3) := Lib.hid (below_then HB2.out b3); clear b3))
        go_ret2
        exact ⟨rfl, HB3.out⟩
end Go.Proofs.YtgjgofjabdjclaaDoor
