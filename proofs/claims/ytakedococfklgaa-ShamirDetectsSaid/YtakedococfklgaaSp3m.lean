/- Contract of shamir.Split for valid arguments: the shares' bytes lie in blocks of their own. -/
import Derived.Test.YtakedococfklgaaB3
import Derived.Test.YtakedococfklgaaEv2m
namespace Go.Proofs.Ytakedococfklgaa
open Go.RowKit Gf

/-- A row of shares that the call owns, with the bytes of each in a block of its own. -/
structure OwnQ (w : World) (base : Nat) (v : Value) (n : Nat) (l : List (Int × List UInt8)) (q : List (Int × Value)) : Prop where
  len : l.length = n
  ql : q.length = n
  own : w.ownsRow base 33 2 v n (shC q)
  rows : ∀ j, j < n → ∃ A k c, q[j]? = some ((gS l j).1, .slice A k c) ∧ BS w A k c (gS l j).2 ∧ (0 < k → AtB A (fun b => v.ownBlock ≠ some b) ∧ AtB A (base ≤ ·))
  far : ∀ i j, i < j → j < n → ∀ x A k c y A' k' c', q[i]? = some (x, .slice A k c) → q[j]? = some (y, .slice A' k' c') → 0 < k → 0 < k' → ∀ a a', A = some a → A' = some a' → a.block ≠ a'.block
  fz : ∀ j, j < n → ∀ x A k c, q[j]? = some (x, .slice A k c) → 0 < k → ∀ a, A = some a → ∃ t cs, Blk w a.block t cs
section
variable {w w' : World} {base : Nat} {v v' : Value} {n : Nat} {l : List (Int × List UInt8)} {q : List (Int × Value)}
theorem OwnQ.kept (h : OwnQ w base v n l q) (hb : Below w.heap.size w w') : OwnQ w' base v n l q :=
  ⟨h.len, h.ql, own2 (S := fun _ => False) (Kp.of_below hb) h.own (fun _ _ => id), fun j hj => by
    obtain ⟨A, k, c, h1, h2, h3⟩ := h.rows j hj
    exact ⟨A, k, c, h1, h2.kept hb, h3⟩, h.far, fun j hj x A k c e h0 a ea => let ⟨t, cs, hk⟩ := h.fz j hj x A k c e h0 a ea; ⟨t, cs, hk.kept hb⟩⟩
theorem OwnQ.owns (h : OwnQ w base v n l q) : OwnS w base v n l := ⟨h.len, q, h.ql, h.own, fun j hj => by
  obtain ⟨A, k, c, h1, h2, h3⟩ := h.rows j hj
  exact ⟨A, k, c, h1, h2, fun h0 => (h3 h0).1⟩⟩
theorem OwnQ.mono {b : Nat} (h : OwnQ w base v n l q) (hb : b ≤ base) : OwnQ w b v n l q := by
  obtain ⟨h1, h2, ⟨h3, h4⟩, h5, h6, h7⟩ := h
  refine ⟨h1, h2, ⟨h3, ?_⟩, fun j hj => ?_, h6, h7⟩
  · rcases h4 with h4 | ⟨g, cap, cur, e, hg, h6⟩
    · exact .inl h4
    · exact .inr ⟨g, cap, cur, e, Nat.le_trans hb hg, h6⟩
  · obtain ⟨A, k, c, p1, p2, p3⟩ := h5 j hj
    exact ⟨A, k, c, p1, p2, fun h0 => ⟨(p3 h0).1, fun a e => Nat.le_trans hb ((p3 h0).2 a e)⟩⟩
theorem OwnQ.lt (h : OwnQ w base v n l q) : ∀ j, j < n → ∀ x A k c, q[j]? = some (x, .slice A k c) → 0 < k → ∀ a, A = some a → a.block < w.heap.size := fun j hj x A k c e h0 a ea => by
  obtain ⟨A1, k1, c1, h1, h2, _⟩ := h.rows j hj
  rw [e] at h1
  injection h1 with h1
  injection h1 with _ h1
  injection h1 with e1 e2 e3
  subst e1 e2 e3
  obtain ⟨g', o', e2, hc⟩ := h2.2.2.2 0 h0
  rw [ea] at e2
  injection e2 with e2
  rw [e2]
  exact cell_lt hc
theorem OwnQ.push {H : Nat} (h : OwnQ w base v n l q) (hlt : ∀ j, j < n → ∀ x A k c, q[j]? = some (x, .slice A k c) → 0 < k → ∀ a, A = some a → a.block < H)
    {A : Option Addr} {k c : Nat} {x : Int} {d : List UInt8} (hl : BS w A k c d) (hz : ∀ a, A = some a → ∃ t cs, Blk w a.block t cs) (hA : AtB A (H ≤ ·)) (hv : ∀ b, v.ownBlock = some b → b < H)
    (hp : AppS base 33 v n (shC q ++ [.int .i64 x, .slice A k c]) v' w w') (hH : base ≤ H) : OwnQ w' base v' (n + 1) (l ++ [(x, d)]) (q ++ [(x, .slice A k c)]) := by
  have hK : Kp (fun b => v.ownBlock = some b) w w' := (Kp.refl _ _).grown hp.2.1 (fun _ e => .inl e)
  have hrow : ∀ (A : Option Addr) (k c : Nat) (l : List UInt8), BS w A k c l → (0 < k → AtB A (fun b => v.ownBlock ≠ some b) ∧ AtB A (base ≤ ·)) → BS w' A k c l ∧ (0 < k → AtB A (fun b => v'.ownBlock ≠ some b) ∧ AtB A (base ≤ ·)) := by
    intro A k c l hb hA
    refine ⟨⟨hb.1, hb.2.1, hb.2.2.1, fun i hi => ?_⟩, fun h0 => ⟨fun a e e' => ?_, (hA h0).2⟩⟩
    · obtain ⟨g, o, e, hc⟩ := hb.2.2.2 i hi
      exact ⟨g, o, e, hK.cell hc ((hA (by omega)).1 ⟨g, o, none⟩ e)⟩
    · rcases hp.2.2 with h1 | h1
      · exact (hA h0).1 a e (h1.symm.trans e')
      · obtain ⟨g', o', e2, hc⟩ := hb.2.2.2 0 h0
        rw [e] at e2
        injection e2 with e2
        have := cell_lt hc
        rw [h1] at e'
        injection e' with e'
        rw [e2] at e'
        simp only at this e'
        omega
  have hq := h.ql
  refine ⟨by simp [h.len], by simp [h.ql], by rw [shC_append]; exact hp.1, fun j hj => ?_, fun i j hij hj y A1 k1 c1 y' A2 k2 c2 e1 e2 h1 h2 a a' ea ea' => ?_, fun j hj y A1 k1 c1 e h0 a ea => ?_⟩
  · by_cases hjn : j < n
    · obtain ⟨A1, k1, c1, h1, h2, h3⟩ := h.rows j hjn
      obtain ⟨r1, r2⟩ := hrow A1 k1 c1 _ h2 h3
      refine ⟨A1, k1, c1, by rw [List.getElem?_append_left (by omega), gS_append_left (by rw [h.len]; exact hjn)]; exact h1, ?_, r2⟩
      rw [gS_append_left (by rw [h.len]; exact hjn)]; exact r1
    · obtain rfl : j = n := by omega
      obtain ⟨r1, r2⟩ := hrow A k c d hl (fun _ => ⟨fun a e e' => by have := hA a e; have := hv a.block e'; omega, fun a e => Nat.le_trans hH (hA a e)⟩)
      refine ⟨A, k, c, ?_, ?_, r2⟩
      · rw [List.getElem?_append_right (by omega), hq, Nat.sub_self, ← h.len, gS_append_self]; rfl
      · rw [← h.len, gS_append_self]; exact r1
  · rw [List.getElem?_append_left (by omega)] at e1
    by_cases hjn : j < n
    · rw [List.getElem?_append_left (by omega)] at e2
      exact h.far i j hij hjn y A1 k1 c1 y' A2 k2 c2 e1 e2 h1 h2 a a' ea ea'
    · obtain rfl : j = n := by omega
      rw [List.getElem?_append_right (by omega), hq, Nat.sub_self] at e2
      injection e2 with e2
      injection e2 with _ e2
      injection e2 with e3 e4 e5
      subst e3
      have r1 := hlt i (by omega) y A1 k1 c1 e1 h1 a ea
      have r2 := hA a' ea'
      omega
  · have key : ∀ (A : Option Addr) (a : Addr), A = some a → v.ownBlock ≠ some a.block → (∃ t cs, Blk w a.block t cs) → ∃ t cs, Blk w' a.block t cs := fun A a _ hne ⟨t, cs, hk⟩ => ⟨t, cs, (hK.block a.block hk.lt hne).trans hk⟩
    by_cases hjn : j < n
    · rw [List.getElem?_append_left (by omega)] at e
      obtain ⟨A2, k2, c2, g1, g2, g3⟩ := h.rows j hjn
      rw [e] at g1
      injection g1 with g1
      injection g1 with _ g1
      injection g1 with e3 e4 e5
      subst e3 e4
      exact key A1 a ea ((g3 h0).1 a ea) (h.fz j hjn y A1 k1 c1 e h0 a ea)
    · obtain rfl : j = n := by omega
      rw [List.getElem?_append_right (by omega), hq, Nat.sub_self] at e
      injection e with e
      injection e with _ e
      injection e with e3 e4 e5
      subst e3
      exact key A a ea (fun e' => by have := hA a ea; have := hv a.block e'; omega) (hz a ea)
end
theorem horr_length {m : List (List UInt8)} (x : UInt8) {L : Nat} (hm : ∀ j, j < m.length → (gR m j).length = L) : ∀ j, j ≤ m.length → (hor m x L j).length = L
  | 0, _ => zeros_length L
  | j + 1, h => by rw [hor, muladd_length _ _ _ (by rw [hm _ (by omega), horr_length x hm j (by omega)]), horr_length x hm j (by omega)]
theorem evll {m : List (List UInt8)} (x : UInt8) {L : Nat} (h0 : 0 < m.length) (hm : ∀ j, j < m.length → (gR m j).length = L) : (evl m x).length = L := by
  unfold evl; rw [hm 0 h0]; exact horr_length x hm _ (Nat.le_refl _)

set_option maxRecDepth 100000 in
set_option maxHeartbeats 1000000 in
theorem split_own (As Ac Az : Option Addr) (ns cs nc cc nz cz : Nat) (secret : List UInt8) (co : List (List UInt8)) (z : List Int) (w : World) (hs : BS w As ns cs secret) (hc : MS w Ac nc cc co) (hz : IS w Az nz cz z) (hl : ltB co (ns : Int) = true) (hx : xsB z = true) (hbig : ¬ 1024 < ns) :
    Calls Try.prog 13 #[.slice As ns cs, .slice Ac nc cc, .slice Az nz cz] w fun e w' => ∃ v, e = .returned (.tuple #[v, .int .i64 0]) ∧ (∃ q, OwnQ w' w.heap.size v nz (splS secret co z) q) ∧ Below w.heap.size w w' := by
  have HLS := Lib.hid hs.1
  have HLC := Lib.hid hc.1
  have HLZ := Lib.hid hz.1
  have hns := hs.len_le
  have hnc := hc.len_le
  have hnz := hz.len_le
  have HS := Lib.hid hs
  have HC := Lib.hid hc
  have HZ := Lib.hid hz
  clear hs hc hz
  have HV := Lib.hid (validLists_any Ac nc cc co (ns : Int) w HC.out)
  obtain ⟨x1, x2, x3⟩ := xsB_spec hx
  rw [HLZ.out] at x1 x2
  have X2 := Lib.hid x2
  have HCL : Hid (∀ i, i < nc → (gR co i).length = ns) := Lib.hid (fun i hi => by
    unfold ltB at hl
    rw [Bool.and_eq_true, List.all_eq_true] at hl
    have := hl.1 i (List.mem_range.2 (by rw [HLC.out]; exact hi))
    simp only [decide_eq_true_eq] at this
    omega)
  have hnc16 : nc < 16 := by
    unfold ltB at hl
    rw [Bool.and_eq_true] at hl
    have := hl.2
    rw [HLC.out] at this
    simpa using this
  clear x2 x3
  have q : decide ((1024 : Int) < (ns : Int)) = false := by simp; omega
  go_enter Try.func13, Try.ntmps13
  go_wp2_with fail
  refine HV.out.mono ?_
  rintro e w' ⟨rfl, rfl⟩
  rw [hl]
  go_wp2_with fail
  refine (validXs_any _ _ _ _ _ HZ.out).mono ?_
  rintro e w1 ⟨rfl, hb1⟩
  rw [hx]
  have HB1 := Lib.hid hb1
  have HS1 := Lib.hid (HS.out.kept hb1)
  have HC1 := Lib.hid (HC.out.kept hb1)
  have HZ1 := Lib.hid (HZ.out.kept hb1)
  clear hb1 HV HS HC HZ hl hx
  go_wp2_with fail
  obtain ⟨W2, hW2⟩ : ∃ W2, W2 = (w1.alloc (.cells #[.slice As ns cs] 22)).alloc (.cells #[.slice (some ⟨w1.heap.size, 0, none⟩) 1 1, .slice Ac nc cc] 23) := ⟨_, rfl⟩
  have hb2 : Below w1.heap.size w1 W2 := by rw [hW2]; exact ((Below.refl _ _).alloc (Nat.le_refl _) _).alloc (by simp) _
  have k2 : Blk W2 w1.heap.size 22 #[.slice As ns cs] := by rw [hW2]; exact (Blk.new w1 _ _).alloc _
  have k3 : Blk W2 (w1.heap.size + 1) 23 #[.slice (some ⟨w1.heap.size, 0, none⟩) 1 1, .slice Ac nc cc] := by
    rw [hW2]
    have := Blk.new (w1.alloc (.cells #[.slice As ns cs] 22)) 23 #[.slice (some ⟨w1.heap.size, 0, none⟩) 1 1, .slice Ac nc cc]
    rw [World.size_alloc] at this
    exact this
  have hm2 : MS W2 (some ⟨w1.heap.size, 0, none⟩) 1 1 [secret] := ⟨rfl, Nat.le_refl _, by decide, fun k hk => by
    obtain rfl : k = 0 := by omega
    exact ⟨_, 0, As, ns, cs, rfl, by rw [k2.cell]; rfl, HS1.out.kept hb2⟩⟩
  rw [← hW2]
  clear hW2
  refine (concat_any (w1.heap.size + 1) _ Ac 1 1 nc cc [secret] co W2 k3 hm2 (HC1.out.kept hb2) (by omega) (by omega) (by omega)).mono ?_
  rintro e w3 ⟨A3, c3, rfl, h31, h32⟩
  have hlen : (1 : Nat) + nc = ([secret] ++ co).length := by rw [List.length_append, HLC.out]; rfl
  obtain ⟨n3, hn3⟩ : ∃ n3, n3 = ([secret] ++ co).length := ⟨_, rfl⟩
  rw [← hn3] at h31 hlen
  rw [← hn3]
  have H31 := Lib.hid h31
  have HB3 := Lib.hid (below_then HB1.out (below_then hb2 h32))
  have HZ3 := Lib.hid ((HZ1.out.kept hb2).kept h32)
  have HN3 := Lib.hid hlen
  have hn30 : 0 < n3 := by omega
  have HNL := Lib.hid hn3
  have HRO : Hid (∀ j, j < n3 → (gR ([secret] ++ co) j).length = ns) := Lib.hid (fun j hj => by
        rw [gR_append]
        split
        · rename_i h9
          obtain rfl : j = 0 := by simp at h9; omega
          exact HLS.out
        · rename_i h9
          have h10 : ([secret] : List (List UInt8)).length = 1 := rfl
          exact HCL.out _ (by have := HN3.out; omega))
  clear h31 h32 hb2 k2 k3 hm2 hn3 hlen HS1 HC1 HZ1
  go_wp2_with fail
  refine (evaluator_any A3 n3 c3 w3).mono ?_
  rintro e w' ⟨rfl, rfl⟩
  have hb4 : Below w3.heap.size w3 (w3.alloc (.cells #[.slice A3 n3 c3] 23)) := (Below.refl _ _).alloc (Nat.le_refl _) _
  have k4 := Blk.new w3 23 #[.slice A3 n3 c3]
  obtain ⟨W4, hW4⟩ : ∃ W4, W4 = w3.alloc (.cells #[.slice A3 n3 c3] 23) := ⟨_, rfl⟩
  rw [← hW4] at hb4 k4 ⊢
  have H41 := Lib.hid (H31.out.kept hb4)
  have HB4 := Lib.hid (below_then HB3.out hb4)
  have HZ4 := Lib.hid (HZ3.out.kept hb4)
  have HK4 := Lib.hid k4
  have hmk := make_shares nz (by omega)
  clear hb4 k4 hW4 H31 HB3 HZ3
  go_wp2_with fail
  clear hmk
  obtain ⟨W5, hW5⟩ : ∃ W5, W5 = W4.alloc (.cells (madeCells #[.int .i64 0, .slice none 0 0] (nz * 2)) 33) := ⟨_, rfl⟩
  have hb5 : Below W4.heap.size W4 W5 := by rw [hW5]; exact (Below.refl _ _).alloc (Nat.le_refl _) _
  have ho5 : ∃ q, OwnQ W5 W4.heap.size (.slice (some ⟨W4.heap.size, 0, none⟩) 0 nz) 0 [] q := ⟨[], rfl, rfl, ⟨rfl, .inr ⟨W4.heap.size, nz, _, rfl, Nat.le_refl _, by rw [hW5]; exact heap_alloc_new W4 _, by omega, by unfold maxLen; omega, size_madeCells _ _, rfl⟩⟩, fun j hj => absurd hj (by omega), fun i j hij hj => absurd hj (by omega), fun j hj => absurd hj (by omega)⟩
  rw [← hW5]
  have HB5 := Lib.hid hb5
  have HO5 := Lib.hid ho5
  clear hb5 ho5 hW5
  go_loopw [9, 36] (fun v i wr => ∃ k : Nat, k ≤ nz ∧ i = .int .i64 (k : Int) ∧ Hid (∃ q, OwnQ wr W4.heap.size v k (splS secret co (z.take k)) q) ∧ Hid (Below W4.heap.size W4 wr)) (fun _ i _ => nz - (intOf i).toNat)
  case atStart => exact ⟨0, by omega, rfl, HO5, HB5⟩
  case round =>
    obtain ⟨k, hk, rfl, HO, hb⟩ := hrel
    obtain ⟨q, ho⟩ := HO.out
    by_cases hlt : k < nz
    · obtain ⟨gz, oz, rfl, hcz⟩ := HZ4.out.at_ hb.out hlt
      obtain ⟨x, hx⟩ : ∃ x, x = UInt8.ofNat (gI z k).toNat := ⟨_, rfl⟩
      have HXV : Hid (gI z k = bv x) := Lib.hid (by rw [hx]; exact (bv_ofNat _ (by have := X2.out k hlt; omega) (by have := X2.out k hlt; omega)).symm)
      rw [HXV.out] at hcz
      have HXX := Lib.hid hx
      clear hx
      go_wp2_with fail
      refine (eval2_any w3.heap.size A3 n3 c3 ns _ x wr (by rw [(HK4.out.kept hb.out).cell]; rfl) (H41.out.kept hb.out) hn30 HRO.out).mono ?_
      rintro e w6 ⟨v6, rfl, g6, n6, rfl, h60, h62, h61, h63⟩
      have hb7 : Below w6.heap.size w6 (w6.alloc (.cells #[.int .i64 (bv x), .slice (some ⟨g6, 0, none⟩) n6 n6] 33)) := (Below.refl _ _).alloc (Nat.le_refl _) _
      have hb67 := below_then h63 hb7
      have hq7 := ho.kept hb67
      have HLT := Lib.hid ho.lt
      have HQ7 := Lib.hid hq7
      have HOB := Lib.hid (fun k hk => ho.own.lt k hk)
      have HW7 := Lib.hid hq7.own
      have hn6 : n6 = ns := by rw [← h60]; exact evll x (by rw [← HNL.out]; exact hn30) (fun j hj => HRO.out j (by rw [HNL.out]; exact hj))
      have H60 := Lib.hid (h61.kept hb7)
      have H61 := Lib.hid (BS.of_blk (h61.kept hb7) h60 (by rw [hn6]; unfold lim; omega))
      have H62 := Lib.hid h62
      have HB7 := Lib.hid (below_then hb.out hb67)
      have HSZ := Lib.hid hb.out.size
      clear h60 hn6 h61 h62 h63 hb7 hb67 hq7 ho hb
      go_wp2_with (first
        | (at_builtin; refine wpList_appS _ rfl (.tmp 40) (.tmp 46) rfl W4.heap.size u9 k (shC q) rfl HW7.out w6.heap.size 1 33 (.int .i64 (bv x)) (.slice (some ⟨g6, 0, none⟩) n6 n6) rfl (Blk.new w6 _ _) rfl rfl (by omega) HB7.out.size ?_; intro v8 w8 hp8))
      have HO8 : Hid (∃ q, OwnQ w8 W4.heap.size v8 (k + 1) (splS secret co (z.take (k + 1))) q) := Lib.hid (by
        rw [splS_take secret co z k (by rw [HLZ.out]; exact hlt)]
        have := HQ7.out.push (H := wr.heap.size) HLT.out H61.out (fun a e => by cases e; exact ⟨_, _, H60.out⟩) (fun a e => by cases e; exact H62.out) (fun b hb' => (HOB.out b hb').2) hp8 HSZ.out
        rw [← HXX.out, HXV.out]
        exact ⟨_, this⟩)
      have HB8 : Hid (Below W4.heap.size W4 w8) := Lib.hid (HB7.out.grown hp8.2.1 HB7.out.size (fun b hb' => (HOB.out b hb').1))
      clear hp8 HO
      go_roundw
      case rel => exact ⟨k + 1, by omega, by go_num, HO8, HB8⟩
      case measure => simp [intOf]; omega
    · obtain rfl : k = nz := by omega
      have HF : Hid (∃ q, OwnQ wr w.heap.size u9 k (splS secret co z) q) := Lib.hid (by
        have h1 := ho
        rw [List.take_of_length_le (by rw [HLZ.out]; exact Nat.le_refl _)] at h1
        exact ⟨_, h1.mono HB4.out.size⟩)
      have HBF := Lib.hid (below_then HB4.out hb.out)
      clear ho HO hb
      go_wp2_with fail
      go_ret2
      exact ⟨_, rfl, HF.out, HBF.out⟩
end Go.Proofs.Ytakedococfklgaa
