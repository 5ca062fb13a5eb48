/- Several texts in one: Rhs, Rso, Rsn. -/
import Derived.Test.YtgjgofjabdjclaaDoorA18
import Derived.LoopTactic
import Derived.Test.YtgjgofjabdjclaaDoorA21
/- The reference's spots: plain; contract of ref44.has. -/
namespace Go.Proofs.YtgjgofjabdjclaaDoor
open Go Go.RowKit Gf Sha

/-- The selected numbers below b, ascending. -/
def selF (S : List Nat) (b : Nat) : List Nat := (List.range b).filter fun x => S.contains x
theorem selF_succ (S : List Nat) (b : Nat) : selF S (b + 1) = selF S b ++ (if S.contains b then [b] else []) := by
  rw [selF, selF, List.range_succ, List.filter_append]
  congr 1
  by_cases h : S.contains b = true
  · rw [if_pos h, List.filter_cons_of_pos (by exact h)]; rfl
  · rw [if_neg h, List.filter_cons_of_neg (by exact h)]; rfl
theorem selF_mem {S : List Nat} {b x : Nat} : x ∈ selF S b ↔ x < b ∧ x ∈ S := by
  simp [selF]
theorem selF_asc (S : List Nat) (b : Nat) : (selF S b).Pairwise (· < ·) := List.Pairwise.filter _ (List.pairwise_lt_range)
theorem asc_ext : ∀ {l1 l2 : List Int}, l1.Pairwise (· < ·) → l2.Pairwise (· < ·) → (∀ x, x ∈ l1 ↔ x ∈ l2) → l1 = l2
  | [], [], _, _, _ => rfl
  | [], y :: _, _, _, h => absurd ((h y).2 (by simp)) (by simp)
  | x :: _, [], _, _, h => absurd ((h x).1 (by simp)) (by simp)
  | x :: l1, y :: l2, h1, h2, h => by
    rw [List.pairwise_cons] at h1 h2
    have e : x = y := by
      have hx := (h x).1 (by simp)
      have hy := (h y).2 (by simp)
      rw [List.mem_cons] at hx hy
      rcases hx with hx | hx
      · exact hx
      · rcases hy with hy | hy
        · exact hy.symm
        · have := h1.1 y hy; have := h2.1 x hx; omega
    subst e
    congr 1
    refine asc_ext h1.2 h2.2 (fun z => ⟨fun hz => ?_, fun hz => ?_⟩)
    · have h3 := (h z).1 (by simp [hz])
      rw [List.mem_cons] at h3
      rcases h3 with rfl | h3
      · have := h1.1 z hz; omega
      · exact h3
    · have h3 := (h z).2 (by simp [hz])
      rw [List.mem_cons] at h3
      rcases h3 with rfl | h3
      · have := h2.1 z hz; omega
      · exact h3
/-- All the selected, ascending, are the spots. -/
theorem sel_spots (nonce : List UInt8) {b c : Nat} (h : c ≤ b) : intsN (selF (spK nonce (b - c) c) b) = spotsL nonce b c := by
  refine asc_ext ?_ (spotsL_asc nonce b c) (fun x => ?_)
  · rw [intsN, List.pairwise_map]
    exact (selF_asc _ _).imp (fun h => by omega)
  · rw [(spotsL_perm nonce b c).mem_iff]
    constructor
    · intro hx
      obtain ⟨n, hn, rfl⟩ := List.mem_map.1 hx
      exact List.mem_map.2 ⟨n, (selF_mem.1 hn).2, rfl⟩
    · intro hx
      obtain ⟨n, hn, rfl⟩ := List.mem_map.1 hx
      refine List.mem_map.2 ⟨n, selF_mem.2 ⟨?_, hn⟩, rfl⟩
      have := spK_lt nonce (b - c) c n hn
      omega
theorem sel_length (nonce : List UInt8) {b c : Nat} (h : c ≤ b) : (selF (spK nonce (b - c) c) b).length = c := by
  have h1 := congrArg List.length (sel_spots nonce h)
  rw [spotsL_length, intsN, List.length_map] at h1
  exact h1
/-- The first of them. -/
theorem sel_prefix (S : List Nat) {k b : Nat} (h : k ≤ b) : ∃ r, selF S b = selF S k ++ r := by
  induction b with
  | zero => obtain rfl : k = 0 := by omega
            exact ⟨[], by simp⟩
  | succ b ih =>
    by_cases hk : k = b + 1
    · subst hk; exact ⟨[], by simp⟩
    · obtain ⟨r, hr⟩ := ih (by omega)
      exact ⟨r ++ (if S.contains b then [b] else []), by rw [selF_succ, hr, List.append_assoc]⟩
theorem sel_full {S : List Nat} {k b c : Nat} (h : k ≤ b) (hb : (selF S b).length = c) (hk : (selF S k).length = c) : selF S k = selF S b := by
  obtain ⟨r, hr⟩ := sel_prefix S h
  have h1 := congrArg List.length hr
  rw [List.length_append] at h1
  obtain rfl : r = [] := List.eq_nil_of_length_eq_zero (by omega)
  rw [hr, List.append_nil]

set_option maxRecDepth 100000 in
set_option maxHeartbeats 1000000 in
theorem rhas_any (v : Value) (n : Nat) (l : List Nat) (t : Nat) (w : World) (h : RW w 3 1 v n ((intsN l).map (Value.int .i64))) (hl : l.length = n) (hn : n ≤ 100000) :
    Calls Tryd.prog 53 #[v, .int .i64 (t : Int)] w fun e w' => e = .returned (.bool (l.contains t)) ∧ w = w' := by
  obtain ⟨A, c, rfl, _⟩ := h.form
  have H := Lib.hid h
  have hn0 : 0 ≤ (n : Int) := by omega
  clear h
  go_enter Tryd.func53, Tryd.ntmps53
  go_wp2_with fail
  go_loop [9] (fun i => ∃ k : Nat, k ≤ n ∧ i = .int .i64 (k : Int) ∧ Hid (∀ j (hj : j < l.length), j < k → l[j] ≠ t)) (fun i => n - (intOf i).toNat)
  case atStart => exact ⟨0, by omega, rfl, Lib.hid (fun j _ h => by omega)⟩
  case round =>
    obtain ⟨k, hk, rfl, ha⟩ := hrel
    by_cases hlt : k < n
    · obtain ⟨g, o, c', e, _, hat⟩ := H.out.at_ (by omega)
      cases e
      have hkl : k < l.length := by omega
      obtain ⟨y, hy⟩ : ∃ y, l[k] = y := ⟨_, rfl⟩
      have cx : w.cell? ⟨g, o + k, none⟩ = some (.int .i64 (y : Int)) := hat k _ (by rw [List.getElem?_map, intsN, List.getElem?_map, List.getElem?_eq_getElem hkl, hy]; rfl)
      clear hat
      by_cases he : y = t
      · have HC : Hid (l.contains t = true) := Lib.hid (by simp only [List.contains_iff_mem]; rw [← he, ← hy]; exact List.getElem_mem hkl)
        have q : ((y : Int) == (t : Int)) = true := by rw [he]; simp
        clear he hy
        go_wp2_with fail
        go_ret
        exact ⟨ret_bool (by have h := HC.out; simp at h ⊢; exact h), rfl⟩
      · have HA : Hid (∀ j (hj : j < l.length), j < k + 1 → l[j] ≠ t) := Lib.hid (fun j hj h => by
          by_cases hjk : j = k
          · subst hjk; rw [hy]; exact he
          · exact ha.out j hj (by omega))
        have q : ((y : Int) == (t : Int)) = false := by rw [beq_eq_false_iff_ne]; omega
        clear he hy
        go_wp2_with fail
        go_round
        case rel => exact ⟨k + 1, by omega, by go_num, HA⟩
        case measure => simp [intOf]; omega
    · obtain rfl : k = n := by omega
      have HC : Hid (l.contains t = false) := Lib.hid (by
        rw [Bool.eq_false_iff]
        intro h
        simp only [List.contains_iff_mem] at h
        obtain ⟨j, hj, e⟩ := List.mem_iff_getElem.1 h
        exact ha.out j hj (by omega) e)
      go_wp2_with fail
      go_ret
      exact ⟨ret_bool (by have h := HC.out; simp at h ⊢; exact h), rfl⟩
end Go.Proofs.YtgjgofjabdjclaaDoor
/- Contract of ref44.Spots. -/
namespace Go.Proofs.YtgjgofjabdjclaaDoor
open Go Go.RowKit Gf Sha

theorem strB_take (l : List UInt8) (k : Nat) : (strB l).extract 0 k = strB (l.take k) := by
  rw [ByteArray.ext_iff]
  simp [strB, ByteArray.data_extract]
theorem take_length8 {l : List UInt8} (h : l.length = 32) : (l.take 8).length = 8 := by rw [List.length_take, h]; rfl
theorem gB_take8 {l : List UInt8} {q : Nat} (hq : q < 8) : gB (l.take 8) q = gB l q := by
  rw [gB, gB, List.getD_eq_getElem?_getD, List.getD_eq_getElem?_getD, List.getElem?_take_of_lt hq]
set_option maxRecDepth 100000 in
set_option maxHeartbeats 4000000 in
theorem rspots_yes (nonce : List UInt8) (b c : Nat) (w : World) (hv : spotB nonce.length b c = true) :
    Calls Tryd.prog 22 #[.string (strB nonce), .int .i64 (b : Int), .int .i64 (c : Int)] w (SpRet nonce b c w) := by
  obtain ⟨v1, v2, v3, _, v5, v6⟩ := spotB_parts hv
  have h1 : (((strB nonce).size : Int) != 32) = false := by rw [strB_size, v1]; rfl
  have H32 := Lib.hid v1
  have hbc : c ≤ b := by omega
  have hc64 : c ≤ 64 := by omega
  have hc0 : 0 ≤ (c : Int) := by omega
  have hb1 : 1 ≤ (b : Int) := v2
  have hb2 : (b : Int) ≤ 1048576 := v3
  have hci : (c : Int) ≤ 64 := v5
  obtain ⟨st, hst⟩ : ∃ st, st = b - c := ⟨_, rfl⟩
  have HST : Hid ((b : Int) - (c : Int) = (st : Int)) := Lib.hid (by omega)
  have HSB : Hid (st + c = b) := Lib.hid (by omega)
  have HSE := Lib.hid hst
  have d1 : decide ((b : Int) < 1) = false := decide_eq_false (by omega)
  have d2 : decide (1048576 < (b : Int)) = false := decide_eq_false (by omega)
  have d3 : decide ((c : Int) < 0) = false := decide_eq_false (by omega)
  have d4 : decide (64 < (c : Int)) = false := decide_eq_false (by omega)
  have d5 : decide (b < c) = false := decide_eq_false (by omega)
  have d6 : ¬ b < c := by omega
  have HO0 : Hid ((w.alloc (.cells #[] 3)).ownsRow w.heap.size 3 1 (.slice (some ⟨w.heap.size, 0, none⟩) 0 0) 0 ((intsN (spK nonce st 0)).map (Value.int .i64))) := Lib.hid (BL.own (BL.new w 3 []) (Nat.le_refl _) rfl (by decide))
  have HX0 : Hid (Below w.heap.size w (w.alloc (.cells #[] 3))) := Lib.hid ((Below.refl _ _).alloc (Nat.le_refl _) _)
  have hst1 : IntKind.i64.wrap ((b : Int) - (c : Int)) = (st : Int) := by rw [IntWalk.i64_in _ (by omega)]; omega
  clear hv v1 hst v2 v3 v5 v6
  go_enter Tryd.func22, Tryd.ntmps22
  go_wp2_with fail
  clear hst1 h1 d1 d2 d3 d4 d5 d6
  go_loopw [8, 9] (fun v i wr => ∃ (j m g cc k : Nat), j ≤ c ∧ m ≤ 64 ∧ k ≤ 1048576 ∧ i = .int .i64 (k : Int) ∧ v = .slice (some ⟨g, 0, none⟩) m cc ∧ Hid (k = st + j) ∧ Hid (m = j) ∧ Hid (wr.ownsRow w.heap.size 3 1 (.slice (some ⟨g, 0, none⟩) m cc) m ((intsN (spK nonce st j)).map (Value.int .i64))) ∧ Hid (Below w.heap.size w wr)) (fun _ i _ => b - (intOf i).toNat)
  case atStart => exact ⟨0, 0, _, _, st, by omega, by omega, by have := HSB.out; omega, rfl, rfl, Lib.hid rfl, Lib.hid rfl, HO0, HX0⟩
  case round =>
    obtain ⟨j, m, g, cc, k, hj, hm, hk, rfl, rfl, hkj, hmj, ho, hb⟩ := hrel
    obtain ⟨wx, hwx⟩ : ∃ x, x = wr := ⟨_, rfl⟩
    rw [← hwx] at ho hb ⊢
    clear hwx
    by_cases hlt : k < b
    · have hw : IntKind.u64.wrap (k : Int) = (k : Int) := wrapU _ (by omega)
      go_wp2_with (first
        | ((with_reducible show wpList _ _ _ (⟨some 51, _, _, _, _, _⟩ :: _) _ _); refine wpList_bslice _ rfl 22 5 4 _ rfl #[(0, B 115), (1, B 112), (2, B 111), (3, B 116)] (by rw [List.map_toArray]; rfl) (([115, 112, 111, 116] : List UInt8).map B) (bsl4' 115 112 111 116 _) ?_; intro w3 a1 a2 a3; have HC3 := Lib.hid a1; have HX3 := Lib.hid a2; clear a1 a2 a3)
        | ((with_reducible show wpList _ _ _ (⟨some 52, _, _, _, _, _⟩ :: _) _ _); refine wpList_same _ rfl (.tmp 51) rfl wx.heap.size 4 4 [115, 112, 111, 116] rfl HC3.out rfl (by decide) rfl ?_; intro w4 a1 a2 a3; have HC4 := Lib.hid a1; have HX4 : Hid (Below wx.heap.size wx w4) := Lib.hid (((Kp.of_below (S := fun _ => False) HX3.out).after a2 (fun i hi e => by omega)).below (Nat.le_refl _) (fun _ h => h.elim)); clear a1 a2 a3)
        | (go_at_call 52; refine (rnum_any k w4 (by omega)).mono ?_; rintro e w5 ⟨⟨g5, m5, c5, rfl, hm5, o5⟩, b5⟩; have HM5 := Lib.hid hm5; have HUV := Lib.hid (uv_length k); obtain ⟨A5, c5', e5, s5⟩ := BS.of_own o5 (by have := HM5.out; have := HUV.out; unfold lim; omega); cases e5; have HS5 := Lib.hid s5; have HC5 := Lib.hid (HC4.out.kept b5); have HX5 := Lib.hid (below_thenB HX4.out HX4.out.size b5); clear hm5 o5 b5 s5)
        | ((with_reducible show wpList _ _ _ (⟨some 56, _, _, _, _, _⟩ :: _) _ _); refine wpList_growB _ rfl (.tmp 52) (.tmp 55) rfl _ 4 4 [115, 112, 111, 116] rfl HC5.out _ m5 c5 (uv k) rfl HS5.out (by have := HM5.out; have := HUV.out; omega) (by have := HM5.out; have := HUV.out; omega) ?_; intro v6 w6 hr; obtain ⟨A6, c6, rfl, s6⟩ := BS.of_own hr.own (by have := HM5.out; have := HUV.out; unfold lim; omega); have HS6 := Lib.hid s6; have HX6 := Lib.hid (below_thenB HX5.out HX5.out.size hr.below); clear hr s6)
        | (go_at_call 51; refine (rtag_any A6 (4 + m5) c6 nonce ([115, 112, 111, 116] ++ uv k) w6 HS6.out (by rw [H32.out]; decide) (by have := HM5.out; have := HUV.out; omega)).mono ?_; rintro e w7 ⟨rfl, b7⟩; have HX7 := Lib.hid (below_thenB HX6.out HX6.out.size b7); clear b7; obtain ⟨tg, htg⟩ : ∃ tg, tg = tagL nonce ([115, 112, 111, 116] ++ uv k) := ⟨_, rfl⟩; have HTL : Hid (tg.length = 32) := Lib.hid (by rw [htg]; exact tagL_length _ _); have HTG : Hid (beN (tg.take 8) = tgN nonce (st + j)) := Lib.hid (by rw [htg, ← hkj.out]; rfl); rw [← htg]; have f8 : (8 : Int) ≤ ((strB tg).size : Int) := (by rw [strB_size, HTL.out]; decide); clear htg)
        | ((with_reducible show wpList _ _ _ (⟨some 60, _, _, _, _, _⟩ :: _) _ _); refine wpList_convB _ rfl (.tmp 59) rfl (tg.take 8) (by show Value.string ((strB tg).extract 0 8) = _; rw [strB_take]) ?_; intro w8 cap hc; rw [take_length8 HTL.out]; have HC8 := Lib.hid hc; have HX8 := Lib.hid (below_thenB HX7.out HX7.out.size hc.2.2.1); clear hc))
      have HCB : Hid (BS w8 (some ⟨w7.heap.size, 0, none⟩) 8 cap (tg.take 8)) := Lib.hid (by have := HC8.out.bs (by rw [take_length8 HTL.out]; decide); rw [take_length8 HTL.out] at this; exact this)
      have HW7 := Lib.hid (below_thenB hb.out hb.out.size HX8.out)
      have HO7 := Lib.hid (own_below ho.out HX8.out)
      clear HC3 HX3 HC4 HX4 HS5 HC5 HX5 HS6 HX6 HX7 HX8 HC8 f8 hw ho hb
      go_loop [11, 62] (fun v i => ∃ q X : Nat, q ≤ 8 ∧ i = .int .i64 (q : Int) ∧ v = .int .u64 (X : Int) ∧ Hid (X = beN (tg.take q))) (fun _ i => 8 - (intOf i).toNat)
      case atStart => exact ⟨0, 0, by omega, rfl, rfl, Lib.hid rfl⟩
      case round =>
        obtain ⟨q, X, hq, rfl, rfl, hX⟩ := hrel
        by_cases hq8 : q < 8
        · have hXb : X < 72057594037927936 := by
            have h1 := beN_lt (tg.take q)
            rw [List.length_take, HTL.out, Nat.min_eq_left (by omega), ← hX.out] at h1
            have h2 : 256 ^ q ≤ 256 ^ 7 := Nat.pow_le_pow_right (by omega) (by omega)
            exact Nat.lt_of_lt_of_le h1 h2
          obtain ⟨y, hy⟩ : ∃ y, y = gB tg q := ⟨_, rfl⟩
          have hyb := y.toNat_lt
          have HYB : Hid (y.toNat < 18446744073709551616) := Lib.hid (by omega)
          obtain ⟨P, hP⟩ : ∃ P, P = X * 256 := ⟨_, rfl⟩
          obtain ⟨R, hR⟩ : ∃ R, R = P + y.toNat := ⟨_, rfl⟩
          have m1 : IntKind.u64.wrap ((X : Int) * 256) = (P : Int) := by
            rw [show (X : Int) * 256 = (P : Int) by omega]; exact wrapU P (by omega)
          have m2 : IntKind.u64.wrap ((P : Int) + (y.toNat : Int)) = (R : Int) := by
            rw [show (P : Int) + (y.toNat : Int) = (R : Int) by omega]; exact wrapU R (by omega)
          have HXn : Hid (R = beN (tg.take (q + 1))) := Lib.hid (by
            rw [List.take_succ_eq_append_getElem (by rw [HTL.out]; omega), beN_snoc, ← hX.out, ← gB_eq (by rw [HTL.out]; omega), hR, hP, hy])
          obtain ⟨g0, o0, e0, cx0⟩ := HCB.out.2.2.2 q hq8
          cases e0
          have cx : w8.cell? ⟨w7.heap.size, q, none⟩ = some (B y) := by
            have h9 := cx0
            simp only [Nat.zero_add] at h9
            rw [h9, hy, ← gB_take8 (l := tg) hq8]
          clear cx0
          clear hP hR hy hyb hXb
          go_wp2_with ((with_reducible show wpList _ _ _ (⟨some 69, _, _, _, _, _⟩ :: _) _ _); refine wpList_convN _ rfl (.tmp 68) 5 85 rfl _ .u8 .u64 Tryd.underlying5 Tryd.underlying85 y.toNat _ rfl rfl (wrapU _ HYB.out) ?_)
          go_round
          case rel => exact ⟨q + 1, R, by omega, by go_num, rfl, HXn⟩
          case measure => simp [intOf]; omega
        · obtain rfl : q = 8 := by omega
          rw [show ((8 : Nat) : Int) = 8 from rfl]
          obtain ⟨t, ht⟩ : ∃ t, t = X % (k + 1) := ⟨_, rfl⟩
          have HTT : Hid (t = tgN nonce (st + j) % (st + j + 1)) := Lib.hid (by rw [ht, hX.out, HTG.out, hkj.out])
          have HTk : Hid (t ≤ k) := Lib.hid (by have := Nat.mod_lt X (show 0 < k + 1 by omega); omega)
          have HTW : Hid (IntKind.i64.wrap (t : Int) = (t : Int)) := Lib.hid (IntWalk.i64_in _ (by have := HTk.out; omega))
          have HTE := Lib.hid ht
          have hw1 : IntKind.u64.wrap ((k : Int) + 1) = (k : Int) + 1 := wrapU (k + 1) (by omega)
          clear ht
          by_cases hct : (spK nonce st j).contains t = true
          · have HS : Hid (spK nonce st (j + 1) = spK nonce st j ++ [k]) := Lib.hid (by
              have e : spK nonce st (j + 1) = spK nonce st j ++ [if (spK nonce st j).contains (tgN nonce (st + j) % (st + j + 1)) then st + j else tgN nonce (st + j) % (st + j + 1)] := rfl
              rw [e, ← HTT.out, if_pos hct, hkj.out])
            have HCT := Lib.hid hct
            clear hct
            have HBB := Lib.hid (HW7.out.alloc HW7.out.size (.cells #[.int .i64 (k : Int)] 3))
            have HOO := Lib.hid (HO7.out.kept (World.grownBy_alloc w8 (.cells #[.int .i64 (k : Int)] 3) none) (by simp [Value.ownBlock]))
            have HBK : Hid (Blk (w8.alloc (.cells #[.int .i64 (k : Int)] 3)) w8.heap.size 3 #[.int .i64 (k : Int)]) := Lib.hid (Blk.new w8 3 #[.int .i64 (k : Int)])
            go_wp2_with (first
              | ((with_reducible show wpList _ _ _ (⟨some 76, _, _, _, _, _⟩ :: _) _ _); refine wpList_remN _ rfl (.tmp 72) (.tmp 75) 85 85 rfl X (k + 1) _ _ rfl rfl rfl (by omega) (by omega) ?_; rw [← HTE.out])
              | ((with_reducible show wpList _ _ _ (⟨some 77, _, _, _, _, _⟩ :: _) _ _); refine wpList_convN _ rfl (.tmp 76) 85 3 rfl _ .u64 .i64 Tryd.underlying85 Tryd.underlying3 t _ rfl rfl HTW.out ?_)
              | (go_at_call 53; refine (rhas_any _ m (spK nonce st j) t w8 (RW.of_own HO7.out).1 (by rw [spK_length]; exact hmj.out.symm) (by omega)).mono ?_; rintro e w9 ⟨rfl, rfl⟩; rw [HCT.out])
              | ((with_reducible show wpList _ _ _ (⟨some 85, _, _, _, _, _⟩ :: _) _ _); refine wpList_app1 _ rfl (.tmp 82) (.tmp 84) 43 3 (.int .i64 0) 8 Tryd.underlying43 infoInt rfl rfl w.heap.size _ m _ rfl HOO.out w8.heap.size 1 3 (.int .i64 (k : Int)) rfl HBK.out rfl (by omega) (by omega) HBB.out.size ?_; intro v9 w9 hp))
            obtain ⟨g9, c9, rfl⟩ := hp.form (by omega)
            have HO9 : Hid (w9.ownsRow w.heap.size 3 1 (.slice (some ⟨g9, 0, none⟩) (m + 1) c9) (m + 1) ((intsN (spK nonce st (j + 1))).map (Value.int .i64))) := Lib.hid (by have := hp.own; rw [HS.out, intsN, List.map_append, List.map_append]; exact this)
            have HB9 := Lib.hid (hp.below HOO.out HBB.out (Nat.le_refl _) HBB.out.size)
            clear hp
            go_roundw
            case rel => exact ⟨j + 1, m + 1, _, _, k + 1, by have := hkj.out; have := HSB.out; omega, by have := hkj.out; have := HSB.out; have := hmj.out; omega, by omega, by go_num, rfl, Lib.hid (by rw [hkj.out]; omega), Lib.hid (by rw [hmj.out]), HO9, HB9⟩
            case measure => simp [intOf]; omega
          · rw [Bool.not_eq_true] at hct
            have HS : Hid (spK nonce st (j + 1) = spK nonce st j ++ [t]) := Lib.hid (by
              have e : spK nonce st (j + 1) = spK nonce st j ++ [if (spK nonce st j).contains (tgN nonce (st + j) % (st + j + 1)) then st + j else tgN nonce (st + j) % (st + j + 1)] := rfl
              rw [e, ← HTT.out, if_neg (by rw [hct]; decide)])
            have HCT := Lib.hid hct
            clear hct
            have HBB := Lib.hid (HW7.out.alloc HW7.out.size (.cells #[.int .i64 (t : Int)] 3))
            have HOO := Lib.hid (HO7.out.kept (World.grownBy_alloc w8 (.cells #[.int .i64 (t : Int)] 3) none) (by simp [Value.ownBlock]))
            have HBK : Hid (Blk (w8.alloc (.cells #[.int .i64 (t : Int)] 3)) w8.heap.size 3 #[.int .i64 (t : Int)]) := Lib.hid (Blk.new w8 3 #[.int .i64 (t : Int)])
            go_wp2_with (first
              | ((with_reducible show wpList _ _ _ (⟨some 76, _, _, _, _, _⟩ :: _) _ _); refine wpList_remN _ rfl (.tmp 72) (.tmp 75) 85 85 rfl X (k + 1) _ _ rfl rfl rfl (by omega) (by omega) ?_; rw [← HTE.out])
              | ((with_reducible show wpList _ _ _ (⟨some 77, _, _, _, _, _⟩ :: _) _ _); refine wpList_convN _ rfl (.tmp 76) 85 3 rfl _ .u64 .i64 Tryd.underlying85 Tryd.underlying3 t _ rfl rfl HTW.out ?_)
              | (go_at_call 53; refine (rhas_any _ m (spK nonce st j) t w8 (RW.of_own HO7.out).1 (by rw [spK_length]; exact hmj.out.symm) (by omega)).mono ?_; rintro e w9 ⟨rfl, rfl⟩; rw [HCT.out])
              | ((with_reducible show wpList _ _ _ (⟨some 85, _, _, _, _, _⟩ :: _) _ _); refine wpList_app1 _ rfl (.tmp 82) (.tmp 84) 43 3 (.int .i64 0) 8 Tryd.underlying43 infoInt rfl rfl w.heap.size _ m _ rfl HOO.out w8.heap.size 1 3 (.int .i64 (t : Int)) rfl HBK.out rfl (by omega) (by omega) HBB.out.size ?_; intro v9 w9 hp))
            obtain ⟨g9, c9, rfl⟩ := hp.form (by omega)
            have HO9 : Hid (w9.ownsRow w.heap.size 3 1 (.slice (some ⟨g9, 0, none⟩) (m + 1) c9) (m + 1) ((intsN (spK nonce st (j + 1))).map (Value.int .i64))) := Lib.hid (by have := hp.own; rw [HS.out, intsN, List.map_append, List.map_append]; exact this)
            have HB9 := Lib.hid (hp.below HOO.out HBB.out (Nat.le_refl _) HBB.out.size)
            clear hp
            go_roundw
            case rel => exact ⟨j + 1, m + 1, _, _, k + 1, by have := hkj.out; have := HSB.out; omega, by have := hkj.out; have := HSB.out; have := hmj.out; omega, by omega, by go_num, rfl, Lib.hid (by rw [hkj.out]; omega), Lib.hid (by rw [hmj.out]), HO9, HB9⟩
            case measure => simp [intOf]; omega
    · obtain rfl : k = b := by have := hkj.out; have := HSB.out; omega
      obtain rfl : j = c := by have := hkj.out; have := HSB.out; omega
      have e9 := hmj.out
      subst e9
      have HSP : Hid (intsN (selF (spK nonce st m) k) = spotsL nonce k m) := Lib.hid (by rw [HSE.out]; exact sel_spots nonce hbc)
      have HSL : Hid ((selF (spK nonce st m) k).length = m) := Lib.hid (by rw [HSE.out]; exact sel_length nonce hbc)
      obtain ⟨S, hS⟩ : ∃ S, S = spK nonce st m := ⟨_, rfl⟩
      have HSm : Hid (S.length = m) := Lib.hid (by rw [hS]; exact spK_length _ _ _)
      rw [← hS] at HSP HSL ho
      have HOU : Hid ((wx.alloc (.cells #[] 3)).ownsRow wx.heap.size 3 1 (.slice (some ⟨wx.heap.size, 0, none⟩) 0 0) 0 ((intsN (selF S 0)).map (Value.int .i64))) := Lib.hid (BL.own (BL.new wx 3 []) (Nat.le_refl _) rfl (by decide))
      have HXU : Hid (Below wx.heap.size wx (wx.alloc (.cells #[] 3))) := Lib.hid ((Below.refl _ _).alloc (Nat.le_refl _) _)
      have hkk : ¬ k < k := by omega
      clear hS hkj hmj hlt HO0 HX0
      go_wp2_with fail
      clear hkk
      go_loopw [15, 16] (fun v i wr => ∃ (x n g2 c2 : Nat), x ≤ k ∧ n ≤ m ∧ i = .int .i64 (x : Int) ∧ v = .slice (some ⟨g2, 0, none⟩) n c2 ∧ Hid (n = (selF S x).length) ∧ Hid (wr.ownsRow wx.heap.size 3 1 (.slice (some ⟨g2, 0, none⟩) n c2) n ((intsN (selF S x)).map (Value.int .i64))) ∧ Hid (Below wx.heap.size wx wr)) (fun _ i _ => k - (intOf i).toNat)
      case atStart => exact ⟨0, 0, _, _, by omega, by omega, rfl, rfl, Lib.hid rfl, HOU, HXU⟩
      case round =>
        obtain ⟨x, n, g2, c2, hx, hn, rfl, rfl, hnl, hu, hbu⟩ := hrel
        obtain ⟨wz, hwz⟩ : ∃ x, x = wr := ⟨_, rfl⟩
        rw [← hwz] at hu hbu ⊢
        clear hwz
        by_cases hxk : x < k
        · by_cases hnm : n < m
          · have HOZ := Lib.hid (own_below ho.out hbu.out)
            by_cases hct : S.contains x = true
            · have HS1 : Hid (selF S (x + 1) = selF S x ++ [x]) := Lib.hid (by rw [selF_succ, if_pos hct])
              have HCT := Lib.hid hct
              have HBB := Lib.hid (hbu.out.alloc hbu.out.size (.cells #[.int .i64 (x : Int)] 3))
              have HOO := Lib.hid (hu.out.kept (World.grownBy_alloc wz (.cells #[.int .i64 (x : Int)] 3) none) (by simp [Value.ownBlock]))
              have HBK : Hid (Blk (wz.alloc (.cells #[.int .i64 (x : Int)] 3)) wz.heap.size 3 #[.int .i64 (x : Int)]) := Lib.hid (Blk.new wz 3 #[.int .i64 (x : Int)])
              clear hct
              go_wp2_with (first
                | (go_at_call 53; refine (rhas_any _ m S x wz (RW.of_own HOZ.out).1 HSm.out (by omega)).mono ?_; rintro e w9 ⟨rfl, rfl⟩; rw [HCT.out])
                | ((with_reducible show wpList _ _ _ (⟨some 104, _, _, _, _, _⟩ :: _) _ _); refine wpList_app1 _ rfl (.tmp 101) (.tmp 103) 43 3 (.int .i64 0) 8 Tryd.underlying43 infoInt rfl rfl wx.heap.size _ n _ rfl HOO.out wz.heap.size 1 3 (.int .i64 (x : Int)) rfl HBK.out rfl (by omega) (by omega) HBB.out.size ?_; intro v9 w9 hp))
              obtain ⟨g9, c9, rfl⟩ := hp.form (by omega)
              have HO9 : Hid (w9.ownsRow wx.heap.size 3 1 (.slice (some ⟨g9, 0, none⟩) (n + 1) c9) (n + 1) ((intsN (selF S (x + 1))).map (Value.int .i64))) := Lib.hid (by have := hp.own; rw [HS1.out, intsN, List.map_append, List.map_append]; exact this)
              have HB9 := Lib.hid (hp.below HOO.out HBB.out (Nat.le_refl _) HBB.out.size)
              clear hp
              go_roundw
              case rel => exact ⟨x + 1, n + 1, _, _, by omega, by omega, by go_num, rfl, Lib.hid (by rw [HS1.out, List.length_append, ← hnl.out]; rfl), HO9, HB9⟩
              case measure => simp [intOf]; omega
            · have HS1 : Hid (selF S (x + 1) = selF S x) := Lib.hid (by rw [selF_succ, if_neg hct, List.append_nil])
              rw [Bool.not_eq_true] at hct
              have HCT := Lib.hid hct
              clear hct
              go_wp2_with (go_at_call 53; refine (rhas_any _ m S x wz (RW.of_own HOZ.out).1 HSm.out (by omega)).mono ?_; rintro e w9 ⟨rfl, rfl⟩; rw [HCT.out])
              go_roundw
              case rel => exact ⟨x + 1, n, _, _, by omega, by omega, by go_num, rfl, Lib.hid (by rw [HS1.out]; exact hnl.out), Lib.hid (by rw [HS1.out]; exact hu.out), hbu⟩
              case measure => simp [intOf]; omega
          · obtain rfl : n = m := by omega
            have HE : Hid (selF S x = selF S k) := Lib.hid (sel_full (by omega) HSL.out hnl.out.symm)
            go_wp2_with fail
            go_ret2
            refine ⟨_, rfl, ⟨_, _, _, rfl⟩, ⟨?_, ?_⟩, below_thenB hb.out hb.out.size hbu.out⟩
            · rw [← HSP.out, intsN, List.length_map, HSL.out]
            · rw [← HSP.out, ← HE.out]
              exact own_mono hu.out hb.out.size
        · obtain rfl : x = k := by omega
          obtain rfl : n = m := by rw [hnl.out]; exact HSL.out
          go_wp2_with fail
          go_ret2
          refine ⟨_, rfl, ⟨_, _, _, rfl⟩, ⟨?_, ?_⟩, below_thenB hb.out hb.out.size hbu.out⟩
          · rw [← HSP.out, intsN, List.length_map, HSL.out]
          · rw [← HSP.out]
            exact own_mono hu.out hb.out.size
end Go.Proofs.YtgjgofjabdjclaaDoor
/- Contract of ref44.Spots where its arguments are not valid. -/
namespace Go.Proofs.YtgjgofjabdjclaaDoor
open Go Go.RowKit Gf Sha

set_option maxHeartbeats 2000000 in
theorem rspots_no (nonce : List UInt8) (b c : Int) (w : World) (hv : spotB nonce.length b c = false) :
    Calls Tryd.prog 22 #[.string (strB nonce), .int .i64 b, .int .i64 c] w fun e w' => e = .returned (.tuple #[.slice none 0 0, .int .i64 1]) ∧ w = w' := by
  by_cases h1 : nonce.length = 32
  · have t1 : (((strB nonce).size : Int) != 32) = false := by rw [strB_size, h1]; rfl
    by_cases h2 : b < 1
    · have d2 : decide (b < 1) = true := decide_eq_true h2
      clear hv h1 h2
      go_enter Tryd.func22, Tryd.ntmps22
      go_wp2_with fail
      go_ret2
      exact ⟨rfl, rfl⟩
    · have d2 : decide (b < 1) = false := decide_eq_false h2
      by_cases h3 : 1048576 < b
      · have d3 : decide (1048576 < b) = true := decide_eq_true h3
        clear hv h1 h2 h3
        go_enter Tryd.func22, Tryd.ntmps22
        go_wp2_with fail
        go_ret2
        exact ⟨rfl, rfl⟩
      · have d3 : decide (1048576 < b) = false := decide_eq_false h3
        by_cases h4 : c < 0
        · have d4 : decide (c < 0) = true := decide_eq_true h4
          clear hv h1 h2 h3 h4
          go_enter Tryd.func22, Tryd.ntmps22
          go_wp2_with fail
          go_ret2
          exact ⟨rfl, rfl⟩
        · have d4 : decide (c < 0) = false := decide_eq_false h4
          by_cases h5 : 64 < c
          · have d5 : decide (64 < c) = true := decide_eq_true h5
            clear hv h1 h2 h3 h4 h5
            go_enter Tryd.func22, Tryd.ntmps22
            go_wp2_with fail
            go_ret2
            exact ⟨rfl, rfl⟩
          · have d5 : decide (64 < c) = false := decide_eq_false h5
            have h6 : b < c := by
              by_cases h : b < c
              · exact h
              · exfalso
                rw [spotB, decide_eq_true h1, decide_eq_true (show 1 ≤ b by omega), decide_eq_true (show b ≤ 1048576 by omega), decide_eq_true (show 0 ≤ c by omega), decide_eq_true (show c ≤ 64 by omega), decide_eq_true (show c ≤ b by omega)] at hv
                cases hv
            have d6 : decide (b < c) = true := decide_eq_true h6
            clear hv h1 h2 h3 h4 h5 h6
            go_enter Tryd.func22, Tryd.ntmps22
            go_wp2_with fail
            go_ret2
            exact ⟨rfl, rfl⟩
  · have t1 : (((strB nonce).size : Int) != 32) = true := by rw [strB_size]; simp only [bne_iff_ne, ne_eq]; omega
    clear hv h1
    go_enter Tryd.func22, Tryd.ntmps22
    go_wp2_with fail
    go_ret2
    exact ⟨rfl, rfl⟩
end Go.Proofs.YtgjgofjabdjclaaDoor
