/- Contract of shamir.Split. -/
import Derived.Test.YtakedococfklgaaSp1
import Derived.Test.YtakedococfklgaaSh2
namespace Go.Proofs.Ytakedococfklgaa
open Go.RowKit Gf

theorem make_shares (n : Nat) (h : n * 32 ≤ 140737488355328) (w : World) :
    (Instr.makeSlice 26 (.int .i64 0) (.int .i64 (n : Int))).run Try.prog w = .ok (.slice (some ⟨w.heap.size, 0, none⟩) 0 n) (w.alloc (.cells (madeCells #[.int .i64 0, .slice none 0 0] (n * 2)) 33)) := by
  obtain ⟨i, hi, hz, hs, hb⟩ := info_parts infoSh
  have hr := run_make (P := Try.prog) w 26 33 i _ Try.underlying26 hi hz .i64 .i64 0 n (by omega) (by omega) (by rw [hb]; omega) (by omega)
  rw [hr, hs]
  rfl
theorem OwnS.mono {w : World} {base b : Nat} {v : Value} {n : Nat} {l : List (Int × List UInt8)} (h : OwnS w base v n l) (hb : b ≤ base) : OwnS w b v n l := by
  obtain ⟨h1, q, h2, ⟨h3, h4⟩, h5⟩ := h
  refine ⟨h1, q, h2, ⟨h3, ?_⟩, h5⟩
  rcases h4 with h4 | ⟨g, cap, cur, e, hg, h6⟩
  · exact .inl h4
  · exact .inr ⟨g, cap, cur, e, Nat.le_trans hb hg, h6⟩
/-- The list of secret and coefficients. -/
def splM (secret : List UInt8) (co : List (List UInt8)) : List (List UInt8) := [secret] ++ co
/-- The shares. -/
def splS (secret : List UInt8) (co : List (List UInt8)) (z : List Int) : List (Int × List UInt8) := z.map fun x => (x, evl (splM secret co) (UInt8.ofNat x.toNat))
theorem splS_take (secret : List UInt8) (co : List (List UInt8)) (z : List Int) (k : Nat) (h : k < z.length) : splS secret co (z.take (k + 1)) = splS secret co (z.take k) ++ [(gI z k, evl (splM secret co) (UInt8.ofNat (gI z k).toNat))] := by
  rw [List.take_succ_eq_append_getElem h, gI_eq h, splS, List.map_append]; rfl
/-- The error of Split. -/
def splE (secret : List UInt8) (co : List (List UInt8)) (z : List Int) : Int := if ltB co secret.length && xsB z then (if 1024 < secret.length then 2 else 0) else 1
def splL (secret : List UInt8) (co : List (List UInt8)) (z : List Int) : List (Int × List UInt8) := if splE secret co z = 0 then splS secret co z else []
def SplRet (secret : List UInt8) (co : List (List UInt8)) (z : List Int) (w : World) (e : Ending) (w' : World) : Prop :=
  ∃ v, e = .returned (.tuple #[v, .int .i64 (splE secret co z)]) ∧ OwnS w' w.heap.size v (splL secret co z).length (splL secret co z) ∧ Below w.heap.size w w'

set_option maxRecDepth 100000 in
set_option maxHeartbeats 1000000 in
theorem split_any (As Ac Az : Option Addr) (ns cs nc cc nz cz : Nat) (secret : List UInt8) (co : List (List UInt8)) (z : List Int) (w : World) (hs : BS w As ns cs secret) (hc : MS w Ac nc cc co) (hz : IS w Az nz cz z) :
    Calls Try.prog 13 #[.slice As ns cs, .slice Ac nc cc, .slice Az nz cz] w (SplRet secret co z w) := by
  have HLS := Lib.hid hs.1
  have HLC := Lib.hid hc.1
  have HLZ := Lib.hid hz.1
  have hns := hs.len_le
  have hnc := hc.len_le
  have hnz := hz.len_le
  have HS := Lib.hid hs
  have HC := Lib.hid hc
  have HZ := Lib.hid hz
  clear hs hc hz
  have HV := Lib.hid (validLists_any Ac nc cc co (ns : Int) w HC.out)
  cases hl : ltB co (ns : Int) with
  | false =>
    have HE : Hid (splE secret co z = 1) := Lib.hid (by unfold splE; rw [HLS.out, hl]; rfl)
    have HL : Hid (splL secret co z = []) := Lib.hid (by unfold splL; rw [HE.out]; rfl)
    go_enter Try.func13, Try.ntmps13
    go_wp2_with fail
    refine HV.out.mono ?_
    rintro e w' ⟨rfl, rfl⟩
    rw [hl]
    go_wp2_with fail
    go_ret2
    exact ⟨_, by rw [HE.out]; rfl, by rw [HL.out]; exact OwnS.nil _ _, Below.refl _ _⟩
  | true =>
    cases hx : xsB z with
    | false =>
      have HE : Hid (splE secret co z = 1) := Lib.hid (by unfold splE; rw [HLS.out, hl, hx]; rfl)
      have HL : Hid (splL secret co z = []) := Lib.hid (by unfold splL; rw [HE.out]; rfl)
      go_enter Try.func13, Try.ntmps13
      go_wp2_with fail
      refine HV.out.mono ?_
      rintro e w' ⟨rfl, rfl⟩
      rw [hl]
      go_wp2_with fail
      refine (validXs_any _ _ _ _ _ HZ.out).mono ?_
      rintro e w1 ⟨rfl, hb1⟩
      rw [hx]
      have HB1 := Lib.hid hb1
      clear hb1
      go_wp2_with fail
      go_ret2
      exact ⟨_, by rw [HE.out]; rfl, by rw [HL.out]; exact OwnS.nil _ _, HB1.out⟩
    | true =>
      obtain ⟨x1, x2, x3⟩ := xsB_spec hx
      rw [HLZ.out] at x1 x2
      have X2 := Lib.hid x2
      have HCL : Hid (∀ i, i < nc → (gR co i).length = ns) := Lib.hid (fun i hi => by
        unfold ltB at hl
        rw [Bool.and_eq_true, List.all_eq_true] at hl
        have := hl.1 i (List.mem_range.2 (by rw [HLC.out]; exact hi))
        simp only [decide_eq_true_eq] at this
        omega)
      have hnc16 : nc < 16 := by
        unfold ltB at hl
        rw [Bool.and_eq_true] at hl
        have := hl.2
        rw [HLC.out] at this
        simpa using this
      clear x2 x3
      by_cases hbig : 1024 < ns
      · have HE : Hid (splE secret co z = 2) := Lib.hid (by unfold splE; rw [HLS.out, hl, hx]; simp; omega)
        have HL : Hid (splL secret co z = []) := Lib.hid (by unfold splL; rw [HE.out]; rfl)
        have q : decide ((1024 : Int) < (ns : Int)) = true := by simp; omega
        go_enter Try.func13, Try.ntmps13
        go_wp2_with fail
        refine HV.out.mono ?_
        rintro e w' ⟨rfl, rfl⟩
        rw [hl]
        go_wp2_with fail
        refine (validXs_any _ _ _ _ _ HZ.out).mono ?_
        rintro e w1 ⟨rfl, hb1⟩
        rw [hx]
        have HB1 := Lib.hid hb1
        clear hb1
        go_wp2_with fail
        go_ret2
        exact ⟨_, by rw [HE.out]; rfl, by rw [HL.out]; exact OwnS.nil _ _, HB1.out⟩
      · have HE : Hid (splE secret co z = 0) := Lib.hid (by unfold splE; rw [HLS.out, hl, hx]; simp; omega)
        have HL : Hid (splL secret co z = splS secret co z) := Lib.hid (by unfold splL; rw [HE.out]; rfl)
        have q : decide ((1024 : Int) < (ns : Int)) = false := by simp; omega
        go_enter Try.func13, Try.ntmps13
        go_wp2_with fail
        refine HV.out.mono ?_
        rintro e w' ⟨rfl, rfl⟩
        rw [hl]
        go_wp2_with fail
        refine (validXs_any _ _ _ _ _ HZ.out).mono ?_
        rintro e w1 ⟨rfl, hb1⟩
        rw [hx]
        have HB1 := Lib.hid hb1
        have HS1 := Lib.hid (HS.out.kept hb1)
        have HC1 := Lib.hid (HC.out.kept hb1)
        have HZ1 := Lib.hid (HZ.out.kept hb1)
        clear hb1 HV HS HC HZ hl hx
        go_wp2_with fail
        obtain ⟨W2, hW2⟩ : ∃ W2, W2 = (w1.alloc (.cells #[.slice As ns cs] 22)).alloc (.cells #[.slice (some ⟨w1.heap.size, 0, none⟩) 1 1, .slice Ac nc cc] 23) := ⟨_, rfl⟩
        have hb2 : Below w1.heap.size w1 W2 := by rw [hW2]; exact ((Below.refl _ _).alloc (Nat.le_refl _) _).alloc (by simp) _
        have k2 : Blk W2 w1.heap.size 22 #[.slice As ns cs] := by rw [hW2]; exact (Blk.new w1 _ _).alloc _
        have k3 : Blk W2 (w1.heap.size + 1) 23 #[.slice (some ⟨w1.heap.size, 0, none⟩) 1 1, .slice Ac nc cc] := by
          rw [hW2]
          have := Blk.new (w1.alloc (.cells #[.slice As ns cs] 22)) 23 #[.slice (some ⟨w1.heap.size, 0, none⟩) 1 1, .slice Ac nc cc]
          rw [World.size_alloc] at this
          exact this
        have hm2 : MS W2 (some ⟨w1.heap.size, 0, none⟩) 1 1 [secret] := ⟨rfl, Nat.le_refl _, by decide, fun k hk => by
          obtain rfl : k = 0 := by omega
          exact ⟨_, 0, As, ns, cs, rfl, by rw [k2.cell]; rfl, HS1.out.kept hb2⟩⟩
        rw [← hW2]
        clear hW2
        refine (concat_any (w1.heap.size + 1) _ Ac 1 1 nc cc [secret] co W2 k3 hm2 (HC1.out.kept hb2) (by omega) (by omega) (by omega)).mono ?_
        rintro e w3 ⟨A3, c3, rfl, h31, h32⟩
        have hlen : (1 : Nat) + nc = ([secret] ++ co).length := by rw [List.length_append, HLC.out]; rfl
        obtain ⟨n3, hn3⟩ : ∃ n3, n3 = ([secret] ++ co).length := ⟨_, rfl⟩
        rw [← hn3] at h31 hlen
        rw [← hn3]
        have H31 := Lib.hid h31
        have HB3 := Lib.hid (below_then HB1.out (below_then hb2 h32))
        have HZ3 := Lib.hid ((HZ1.out.kept hb2).kept h32)
        have HN3 := Lib.hid hlen
        have hn30 : 0 < n3 := by omega
        clear h31 h32 hb2 k2 k3 hm2 hn3 hlen HS1 HC1 HZ1
        go_wp2_with fail
        refine (evaluator_any A3 n3 c3 w3).mono ?_
        rintro e w' ⟨rfl, rfl⟩
        have hb4 : Below w3.heap.size w3 (w3.alloc (.cells #[.slice A3 n3 c3] 23)) := (Below.refl _ _).alloc (Nat.le_refl _) _
        have k4 := Blk.new w3 23 #[.slice A3 n3 c3]
        obtain ⟨W4, hW4⟩ : ∃ W4, W4 = w3.alloc (.cells #[.slice A3 n3 c3] 23) := ⟨_, rfl⟩
        rw [← hW4] at hb4 k4 ⊢
        have H41 := Lib.hid (H31.out.kept hb4)
        have HB4 := Lib.hid (below_then HB3.out hb4)
        have HZ4 := Lib.hid (HZ3.out.kept hb4)
        have HK4 := Lib.hid k4
        have hmk := make_shares nz (by omega)
        clear hb4 k4 hW4 H31 HB3 HZ3
        go_wp2_with fail
        clear hmk
        obtain ⟨W5, hW5⟩ : ∃ W5, W5 = W4.alloc (.cells (madeCells #[.int .i64 0, .slice none 0 0] (nz * 2)) 33) := ⟨_, rfl⟩
        have hb5 : Below W4.heap.size W4 W5 := by rw [hW5]; exact (Below.refl _ _).alloc (Nat.le_refl _) _
        have ho5 : OwnS W5 W4.heap.size (.slice (some ⟨W4.heap.size, 0, none⟩) 0 nz) 0 [] := ⟨rfl, [], rfl, ⟨rfl, .inr ⟨W4.heap.size, nz, _, rfl, Nat.le_refl _, by rw [hW5]; exact heap_alloc_new W4 _, by omega, by unfold maxLen; omega, size_madeCells _ _, rfl⟩⟩, fun j hj => absurd hj (by omega)⟩
        rw [← hW5]
        have HB5 := Lib.hid hb5
        have HO5 := Lib.hid ho5
        clear hb5 ho5 hW5
        go_loopw [9, 36] (fun v i wr => ∃ k : Nat, k ≤ nz ∧ i = .int .i64 (k : Int) ∧ Hid (OwnS wr W4.heap.size v k (splS secret co (z.take k))) ∧ Hid (Below W4.heap.size W4 wr)) (fun _ i _ => nz - (intOf i).toNat)
        case atStart => exact ⟨0, by omega, rfl, HO5, HB5⟩
        case round =>
          obtain ⟨k, hk, rfl, ho, hb⟩ := hrel
          by_cases hlt : k < nz
          · obtain ⟨gz, oz, rfl, hcz⟩ := HZ4.out.at_ hb.out hlt
            obtain ⟨x, hx⟩ : ∃ x, x = UInt8.ofNat (gI z k).toNat := ⟨_, rfl⟩
            have HXV : Hid (gI z k = bv x) := Lib.hid (by rw [hx]; exact (bv_ofNat _ (by have := X2.out k hlt; omega) (by have := X2.out k hlt; omega)).symm)
            rw [HXV.out] at hcz
            have HXX := Lib.hid hx
            clear hx
            go_wp2_with fail
            refine (eval1_any w3.heap.size A3 n3 c3 ns _ x wr (by rw [(HK4.out.kept hb.out).cell]; rfl) (H41.out.kept hb.out) hn30 (fun j hj => by
              rw [gR_append]
              split
              · rename_i h9
                obtain rfl : j = 0 := by simp at h9; omega
                exact HLS.out
              · rename_i h9
                have h10 : ([secret] : List (List UInt8)).length = 1 := rfl
                exact HCL.out _ (by have := HN3.out; omega))).mono ?_
            rintro e w6 ⟨v6, rfl, A6, n6, c6, rfl, h61, h62, h63⟩
            have hb7 : Below w6.heap.size w6 (w6.alloc (.cells #[.int .i64 (bv x), .slice A6 n6 c6] 33)) := (Below.refl _ _).alloc (Nat.le_refl _) _
            have hb67 := below_then h63 hb7
            obtain ⟨hm7, q, hq, hown7, hps7⟩ := ho.out.kept hb67
            have HOB := Lib.hid (ho.out.base)
            have HW7 := Lib.hid hown7
            have HPS7 := Lib.hid hps7
            have H61 := Lib.hid (h61.kept hb7)
            have H62 := Lib.hid h62
            have HB7 := Lib.hid (below_then hb.out hb67)
            have HM7 := Lib.hid hm7
            have HQ7 := Lib.hid hq
            clear h61 h62 h63 hb7 hb67 hown7 hps7 hm7 hq ho hb
            go_wp2_with (first
              | (at_builtin; refine wpList_appS _ rfl (.tmp 40) (.tmp 46) rfl W4.heap.size u9 k (shC q) rfl HW7.out w6.heap.size 1 33 (.int .i64 (bv x)) (.slice A6 n6 c6) rfl (Blk.new w6 _ _) rfl rfl (by omega) HB7.out.size ?_; intro v8 w8 hp8))
            have hfar : 0 < n6 → AtB A6 (fun b => u9.ownBlock ≠ some b) := fun _ a e e' => by
              have h1 := H62.out a e
              have h2 := (HOB.out a.block e').2
              omega
            have HO8 : Hid (OwnS w8 W4.heap.size v8 (k + 1) (splS secret co (z.take (k + 1)))) := Lib.hid (by
              rw [splS_take secret co z k (by rw [HLZ.out]; exact hlt)]
              have := OwnS.push HM7.out HQ7.out HPS7.out H61.out hfar hp8
              rw [← HXX.out, HXV.out]
              exact this)
            have HB8 : Hid (Below W4.heap.size W4 w8) := Lib.hid (HB7.out.grown hp8.2.1 HB7.out.size (fun b hb' => (HOB.out b hb').1))
            clear hp8 hfar
            go_roundw
            case rel => exact ⟨k + 1, by omega, by go_num, HO8, HB8⟩
            case measure => simp [intOf]; omega
          · obtain rfl : k = nz := by omega
            have HF : Hid (OwnS wr w.heap.size u9 (splL secret co z).length (splL secret co z)) := Lib.hid (by
              have h1 := ho.out
              rw [List.take_of_length_le (by rw [HLZ.out]; exact Nat.le_refl _)] at h1
              rw [HL.out, h1.1]
              exact h1.mono HB4.out.size)
            have HBF := Lib.hid (below_then HB4.out hb.out)
            go_wp2_with fail
            go_ret2
            exact ⟨_, by rw [HE.out]; rfl, HF.out, HBF.out⟩
end Go.Proofs.Ytakedococfklgaa
