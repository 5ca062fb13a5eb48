/- Several texts in one: Hn. -/
import Derived.Test.YtheijpjfpaghfaaGreatDoorC32
import Derived.Test.YtheijpjfpaghfaaGreatDoorC35
/- The reference's Decode. -/
namespace Go.Proofs.YtheijpjfpaghfaaGreatDoor
open Go Go.RowKit Gf Sha

theorem RfS.new {w0 w w' : World} {g n c : Nat} {A : Option Addr} {b : List UInt8} {s0 s : Rd} {S : Nat → Prop} (h0 : RfS w0 g A n c b s0) (h : RfS w g A n c b s) (hk : Kp S w w') (hS : ∀ k, S k → w0.heap.size ≤ k) : RfS w' g A n c b s :=
  ⟨let ⟨l, hl⟩ := h.1; ⟨l, hk.bl hl (fun e => by have := hS g e; obtain ⟨_, h9⟩ := h0.1; have := h9.lt; omega)⟩, h.2.1.kpf hk (h0.2.1.far_new hS), h.2.2⟩
theorem RfS.lt {w : World} {g n c : Nat} {A : Option Addr} {b : List UInt8} {s : Rd} (h : RfS w g A n c b s) : g < w.heap.size := h.1.elim (fun _ h => h.lt)
theorem bldEn (s : List UInt8) (i : Int) (w : World) : (Instr.build 54 #[(0, .agg #[.string (strB s), .int .i64 i])]).run Tryz.prog w = .ok (.agg [.string (strB s), .int .i64 i, nilV, nilV].toArray) w := by kernel_rfl
theorem fldN (k n m : Int) (s : List UInt8) (w : World) : (Instr.field 100 (.agg #[.int .i64 k, .int .u64 0, .int .i64 n, .bool false, .string (strB s), .int .i64 m]) 2).run Tryz.prog w = .ok (.int .i64 n) w := by kernel_rfl
theorem fldS (k n m : Int) (s : List UInt8) (w : World) : (Instr.field 100 (.agg #[.int .i64 k, .int .u64 0, .int .i64 n, .bool false, .string (strB s), .int .i64 m]) 4).run Tryz.prog w = .ok (.string (strB s)) w := by kernel_rfl
theorem RLf.ofnew (w : World) : RLf (w.alloc (.cells #[] 54)) w.heap.size (.slice (some ⟨w.heap.size, 0, none⟩) 0 0) [] :=
  ⟨RW.of_blk (l := []) (BL.new w 54 []) rfl (by decide), fun _ h => (by cases h), List.Pairwise.nil, fun _ h => (by cases h), fun q e => by cases e; exact Nat.le_refl _, fun _ h => (by cases h)⟩
set_option maxRecDepth 100000 in
set_option maxHeartbeats 8000000 in
theorem rdecode_any (w : World) (A : Option Addr) (n c : Nat) (b : List UInt8) (h : BS w A n c b) :
    Calls Tryz.prog 7 #[.slice A n c] w fun e w' => (∃ p, e = .returned (.tuple #[p, .int .i64 (decP b)])) ∧ Below w.heap.size w w' := by
  have HBS := Lib.hid h
  have HL := Lib.hid h.1
  have hn0 : n ≤ 140737488355328 := by have := h.2.2.1; unfold lim at this; omega
  clear h
  obtain ⟨C, hC⟩ : ∃ z, z = (rdC b ⟨0, 0, 0⟩).1 := ⟨_, rfl⟩
  obtain ⟨st1, hs1⟩ : ∃ z, z = (rdC b ⟨0, 0, 0⟩).2 := ⟨_, rfl⟩
  obtain ⟨R, hR⟩ : ∃ z, z = rdRecs b C ([], st1) := ⟨_, rfl⟩
  have HALL : Hid (rdAll b = R) := Lib.hid (by unfold rdAll; rw [← hC, ← hs1, ← hR])
  have HRR := Lib.hid hR
  have HC4 : Hid (C ≤ 4096) := Lib.hid (by rw [hC]; exact rdC_le b _)
  have hC4 : (C : Int) ≤ 4096 := by have := HC4.out; omega
  have QKc := Lib.hid hC
  have Qs := Lib.hid hs1
  clear hC hs1 hR
  have HCNT0 : Hid (∀ (w9 : World) (g : Nat), RfS w9 g A n c b ⟨0, 0, 0⟩ → Calls Tryz.prog 41 #[.pointer (some ⟨g, 0, none⟩), .int .i64 7, .int .i64 4096] w9 fun e w' => e = .returned (.agg #[.int .i64 7, .int .u64 0, .int .i64 (C : Int), .bool false, .string (strB []), .int .i64 4096]) ∧ RfS w' g A n c b st1 ∧ Kp (· = g) w9 w') := Lib.hid (fun w9 g h9 => by
    have h8 := rcnt_rd 4096 (by decide) w9 g n c A b ⟨0, 0, 0⟩ h9
    rw [QKc.out, Qs.out]
    exact h8)
  have fN := fldN
  have fS := fldS
  go_enter Tryz.func7, Tryz.ntmps7
  go_wp2_with (first
    | ((with_reducible show wpList _ _ _ (⟨some 14, _, _, _, _, _⟩ :: _) _ _); refine wpList_box _ rfl 97 (.tmp 13) rfl [.slice A n c, .int .i64 0, .int .i64 0, .int .i64 0] rfl ?_; intro w1 a1 a2 a3; have HG1 : Hid (RfS w1 w.heap.size A n c b ⟨0, 0, 0⟩) := Lib.hid ⟨⟨0, a1⟩, HBS.out.kept a2, HBS.out.far_new (fun k e => Nat.le_of_eq e.symm), Nat.zero_le _⟩; have HB1 := Lib.hid a2; have HZ1 : Hid (w.heap.size < w1.heap.size) := Lib.hid a1.lt; clear a1 a2 a3)
    | (go_at_call 41; have hx0 : Below w1.heap.size w1 (w1.alloc (.cells #[] 54)) := (Below.refl _ _).alloc (Nat.le_refl _) _; refine (HCNT0.out _ _ (HG1.out.kept hx0)).mono ?_; rintro e w2 ⟨rfl, h1, h2⟩; have HD2 := Lib.hid h1; have HRL2 : Hid (RLf w2 w1.heap.size (.slice (some ⟨w1.heap.size, 0, none⟩) 0 0) []) := Lib.hid (RLf.kp (RLf.ofnew w1) h2 (fun q hq e => by have := HZ1.out; omega)); have HB2 : Hid (Below w.heap.size w w2) := Lib.hid (low_own (below_then HB1.out hx0) h2 (fun i hi e => by omega)); have HZ2 : Hid (w1.heap.size ≤ w2.heap.size) := Lib.hid (Nat.le_trans hx0.size h2.size); clear h1 h2 hx0))
  obtain ⟨g, hg⟩ : ∃ g, g = w.heap.size := ⟨_, rfl⟩
  have HG := Lib.hid hg
  rw [← hg] at HD2 HZ1 ⊢
  have HGL : Hid (g < w1.heap.size) := Lib.hid HZ1.out
  have hd0 : Hid (RfS w1 g A n c b ⟨0, 0, 0⟩) := Lib.hid (by rw [HG.out]; exact HG1.out)
  clear HCNT0 QKc Qs HG1 hg HZ1 HB1
  have HCNT : Hid (∀ (w9 : World) (s9 : Rd), RfS w9 g A n c b s9 → Calls Tryz.prog 41 #[.pointer (some ⟨g, 0, none⟩), .int .i64 7, .int .i64 4096] w9 fun e w' => e = .returned (.agg #[.int .i64 7, .int .u64 0, .int .i64 (((rdC b s9).1 : Nat) : Int), .bool false, .string (strB []), .int .i64 4096]) ∧ RfS w' g A n c b (rdC b s9).2 ∧ Kp (· = g) w9 w') := Lib.hid (fun w9 s9 h9 => rcnt_rd 4096 (by decide) w9 g n c A b s9 h9)
  have HSUM : Hid (∀ (w9 : World) (s9 : Rd), RfS w9 g A n c b s9 → Calls Tryz.prog 41 #[.pointer (some ⟨g, 0, none⟩), .int .i64 6, .int .i64 0] w9 fun e w' => e = .returned (.agg #[.int .i64 6, .int .u64 0, .int .i64 0, .bool false, .string (strB (rdV [] sD b s9).1), .int .i64 0]) ∧ RfS w' g A n c b (rdV [] sD b s9).2 ∧ Kp (· = g) w9 w') := Lib.hid (fun w9 s9 h9 => rsum_rd w9 g n c A b s9 h9)
  have HINT : Hid (∀ (w9 : World) (s9 : Rd), RfS w9 g A n c b s9 → Calls Tryz.prog 41 #[.pointer (some ⟨g, 0, none⟩), .int .i64 2, .int .i64 0] w9 fun e w' => e = .returned (.agg #[.int .i64 2, .int .u64 0, .int .i64 (unz (rdV 0 uD b s9).1), .bool false, .string (strB []), .int .i64 0]) ∧ RfS w' g A n c b (rdV 0 uD b s9).2 ∧ Kp (· = g) w9 w') := Lib.hid (fun w9 s9 h9 => rint_rd w9 g n c A b s9 h9)
  go_loopw [5, 6] (fun v iv wr => ∃ (r : Nat) (rs : List Se) (sk : Rd), r ≤ C ∧ iv = .int .i64 (r : Int) ∧ Hid (rs.length + r = C) ∧ Hid (rdRecs b r (rs.map (·.e), sk) = R) ∧ Hid (RLf wr w1.heap.size v rs) ∧ Hid (RfS wr g A n c b sk) ∧ Hid (Below w.heap.size w wr) ∧ Hid (w1.heap.size ≤ wr.heap.size)) (fun _ iv _ => (intOf iv).toNat)
  case atStart => exact ⟨C, [], st1, by omega, rfl, Lib.hid (Nat.zero_add _), Lib.hid HRR.out.symm, HRL2, HD2, HB2, HZ2⟩
  case round =>
    obtain ⟨r, rs, sk, hr, rfl, hl, hrr, hrl, hd, hb, hz⟩ := hrel
    obtain ⟨wx, hwx⟩ : ∃ x, x = wr := ⟨_, rfl⟩
    rw [← hwx] at hrl hd hb hz ⊢
    clear hwx
    have hrC : (r : Int) ≤ 4096 := by omega
    by_cases hlt : 0 < r
    · obtain ⟨r', rfl⟩ : ∃ r', r = r' + 1 := ⟨r - 1, by omega⟩
      have f0 : decide ((0 : Int) < ((r' + 1 : Nat) : Int)) = true := decide_eq_true (by omega)
      obtain ⟨S1, hS1⟩ : ∃ z, z = (rdV [] sD b sk).1 := ⟨_, rfl⟩
      obtain ⟨s1, hs1⟩ : ∃ z, z = (rdV [] sD b sk).2 := ⟨_, rfl⟩
      obtain ⟨N1, hN1⟩ : ∃ z, z = (rdV 0 uD b s1).1 := ⟨_, rfl⟩
      obtain ⟨s2, hs2⟩ : ∃ z, z = (rdV 0 uD b s1).2 := ⟨_, rfl⟩
      obtain ⟨C1, hC1⟩ : ∃ z, z = (rdC b s2).1 := ⟨_, rfl⟩
      obtain ⟨s3, hs3⟩ : ∃ z, z = (rdC b s2).2 := ⟨_, rfl⟩
      obtain ⟨TT, hTT⟩ : ∃ z, z = rdTk b C1 ([], s3) := ⟨_, rfl⟩
      obtain ⟨C2, hC2⟩ : ∃ z, z = (rdC b TT.2).1 := ⟨_, rfl⟩
      obtain ⟨s5, hs5⟩ : ∃ z, z = (rdC b TT.2).2 := ⟨_, rfl⟩
      obtain ⟨UU, hUU⟩ : ∃ z, z = rdUs b C2 ([], s5) := ⟨_, rfl⟩
      have HE : Hid (rdRec b sk = (⟨S1, unz N1, TT.1, UU.1⟩, UU.2)) := Lib.hid (by
        have e2 : rdA b sk = s2 := by rw [hs2, hs1]; rfl
        have e3 : rdTs b sk = TT := by unfold rdTs; rw [e2, ← hC1, ← hs3, ← hTT]
        have e4 : rdUu b sk = UU := by unfold rdUu; rw [e3, ← hC2, ← hs5, ← hUU]
        unfold rdRec
        rw [← hS1, ← hs1, ← hN1, e3, e4])
      have HC1 : Hid (C1 ≤ 4096 ∧ TT.1.length = C1) := Lib.hid ⟨by rw [hC1]; exact rdC_le b s2, by rw [hTT, rdTk_len]; simp⟩
      have HC2 : Hid (C2 ≤ 4096 ∧ UU.1.length = C2) := Lib.hid ⟨by rw [hC2]; exact rdC_le b TT.2, by rw [hUU, rdUs_len]; simp⟩
      have HTT := Lib.hid hTT
      have HUU := Lib.hid hUU
      have QS1 := Lib.hid hS1
      have Qs1 := Lib.hid hs1
      have QN1 := Lib.hid hN1
      have Qs2 := Lib.hid hs2
      have QC1 := Lib.hid hC1
      have Qs3 := Lib.hid hs3
      have QC2 := Lib.hid hC2
      have Qs5 := Lib.hid hs5
      have hC14 : (C1 : Int) ≤ 4096 := by have := HC1.out.1; omega
      have hC24 : (C2 : Int) ≤ 4096 := by have := HC2.out.1; omega
      clear hTT hUU hS1 hs1 hN1 hs2 hC1 hs3 hC2 hs5
      have HNX : Hid (∀ x : Se, x.e = ⟨S1, unz N1, TT.1, UU.1⟩ → rdRecs b r' ((rs ++ [x]).map (·.e), UU.2) = R) := Lib.hid (fun x hx => by
        have h9 := hrr.out
        rw [rdRecs, HE.out] at h9
        rw [List.map_append, List.map_cons, List.map_nil, hx]
        exact h9)
      obtain ⟨Av, cv, ev, _⟩ := hrl.out.row.form
      subst ev
      go_wp2_with (first
        | (go_at_call 41; (with_reducible show Calls _ _ #[_, .int .i64 6, _] _ _); refine (HSUM.out wx sk hd.out).mono ?_; rintro e y1 ⟨rfl, h1, h2⟩; rw [← QS1.out]; rw [← Qs1.out] at h1; have HD1 := Lib.hid h1; have HK1 := Lib.hid h2; clear h1 h2)
        | (go_at_call 41; (with_reducible show Calls _ _ #[_, .int .i64 2, _] _ _); refine (HINT.out y1 s1 HD1.out).mono ?_; rintro e y2 ⟨rfl, h1, h2⟩; rw [← QN1.out]; rw [← Qs2.out] at h1; have HD2 := Lib.hid h1; have HK2 := Lib.hid (HK1.out.trans h2); clear h1 h2)
        | ((with_reducible show wpList _ _ _ (⟨some 30, _, _, _, _, _⟩ :: _) _ _); refine wpList_build _ rfl 54 _ rfl #[(0, .agg #[.string (strB S1), .int .i64 (unz N1)])] (by rw [List.map_toArray]; rfl) (.agg [.string (strB S1), .int .i64 (unz N1), nilV, nilV].toArray) (by exact bldEn _ _ _) ?_)
        | ((with_reducible show wpList _ _ _ (⟨some 7, _, _, _, _, _⟩ :: _) _ _); refine wpList_alloc _ rfl 54 rfl reZ reZeroF ?_; intro y3 a1 a2 a3; have HX3 := Lib.hid a1; have HB3 := Lib.hid a2; have HZ3 := Lib.hid a3; clear a1 a2 a3)
        | ((with_reducible show wpList _ _ _ (⟨none, _, _, _, _, _⟩ :: _) _ _); refine wpList_storev _ rfl 54 (.tmp 7) (.tmp 30) rfl 4 (by kernel_rfl) y2.heap.size 0 _ reZ [.string (strB S1), .int .i64 (unz N1), nilV, nilV] rfl rfl HX3.out rfl (one_val _ rfl) (by decide) ?_; intro y4 a1 a2 a3; have HX4 : Hid (BL y4 y2.heap.size 54 [.string (strB S1), .int .i64 (unz N1), nilV, nilV]) := Lib.hid a1; have HB4 : Hid (Below y2.heap.size y2 y4) := Lib.hid (low_own HB3.out a2 (fun i hi e => by omega)); have HD4 := Lib.hid (HD2.out.kept HB4.out); have HK4 : Hid (Kp (· = g) wx y4) := Lib.hid (HK2.out.trans (Kp.of_below HB4.out)); have HG2 : Hid (wx.heap.size ≤ y2.heap.size) := Lib.hid HK2.out.size; clear a1 a2 a3)
        | (go_at_call 41; (with_reducible show Calls _ _ #[_, .int .i64 7, _] y4 _); refine (HCNT.out y4 s2 HD4.out).mono ?_; rintro e y5 ⟨rfl, h1, h2⟩; rw [← QC1.out]; rw [← Qs3.out] at h1; have HD5 := Lib.hid h1; have HX5 := Lib.hid (h2.bl HX4.out (by have := HGL.out; have := hz.out; have := HG2.out; omega)); have HK5 := Lib.hid (HK4.out.trans h2); have HG5 : Hid (y2.heap.size < y5.heap.size) := Lib.hid HX5.out.lt; clear h1 h2)
        | fail)
      have HSZ : Hid (g < w1.heap.size ∧ w1.heap.size ≤ wx.heap.size ∧ wx.heap.size ≤ y2.heap.size ∧ y2.heap.size < y5.heap.size) := Lib.hid ⟨HGL.out, hz.out, HG2.out, HG5.out⟩
      clear HD1 HK1 HD2 HK2 HX3 HB3 HZ3 HX4 HB4 HD4 HK4 HG2 HG5
      go_loopw [8] (fun iv wr => ∃ (k : Nat) (tv : Value) (l : List Sc) (sj : Rd), k ≤ C1 ∧ iv = .int .i64 (k : Int) ∧ Hid (l.length + k = C1) ∧ Hid (rdTk b k (l, sj) = TT) ∧ Hid (BL wr y2.heap.size 54 [.string (strB S1), .int .i64 (unz N1), tv, nilV]) ∧ Hid (RW wr 45 4 tv l.length (l.flatMap (tokC S1 (unz N1)))) ∧ Hid (∀ q, tv.ownBlock = some q → y2.heap.size < q) ∧ Hid (RfS wr g A n c b sj) ∧ Hid (Kp (· = g) wx wr)) (fun iv _ => (intOf iv).toNat)
      case atStart => exact ⟨C1, nilV, [], s3, by omega, rfl, Lib.hid (Nat.zero_add _), Lib.hid HTT.out.symm, HX5, Lib.hid (RW.nil _ _ _), Lib.hid (fun q e => by cases e), HD5, HK5⟩
      case round =>
        obtain ⟨k, tv, l, sj, hk, rfl, hlk, htt, hx, hrw, hown, hdj, hkp⟩ := hrel
        obtain ⟨wy, hwy⟩ : ∃ x, x = wr := ⟨_, rfl⟩
        rw [← hwy] at hx hrw hdj hkp ⊢
        clear hwy
        have hk4 : (k : Int) ≤ 4096 := by omega
        by_cases hkl : 0 < k
        · obtain ⟨k', rfl⟩ : ∃ k', k = k' + 1 := ⟨k - 1, by omega⟩
          have f1 : decide ((0 : Int) < ((k' + 1 : Nat) : Int)) = true := decide_eq_true (by omega)
          obtain ⟨X, hX⟩ : ∃ z, z = (rdV [] sD b sj).1 := ⟨_, rfl⟩
          obtain ⟨t1, ht1⟩ : ∃ z, z = (rdV [] sD b sj).2 := ⟨_, rfl⟩
          obtain ⟨Y, hY⟩ : ∃ z, z = (rdV [] sD b t1).1 := ⟨_, rfl⟩
          obtain ⟨t2, ht2⟩ : ∃ z, z = (rdV [] sD b t1).2 := ⟨_, rfl⟩
          have HNX2 : Hid (rdTk b k' (l ++ [(X, Y)], t2) = TT) := Lib.hid (by
            have h9 := htt.out
            rw [rdTk] at h9
            simp only [← hX, ← ht1, ← hY, ← ht2] at h9
            exact h9)
          have QX := Lib.hid hX
          have Qt1 := Lib.hid ht1
          have QY := Lib.hid hY
          have Qt2 := Lib.hid ht2
          obtain ⟨m, hm⟩ : ∃ m, m = l.length := ⟨_, rfl⟩
          have HM := Lib.hid hm
          rw [← hm] at hrw
          have hm4 : m ≤ 4096 := by have := hlk.out; have := HC1.out; omega
          clear hX ht1 hY ht2 hm
          go_wp2_with fail
          refine Text.wp_region_text (fun w' => w'.cell? ⟨y2.heap.size, 2, none⟩ = some tv ∧ At w' y2.heap.size 0 [.string (strB S1), .int .i64 (unz N1)]) [(0, 4), (2, 4), (4, 4), (7, 4), (1, 0), (3, 0), (5, 2), (6, 4), (8, 2), (9, 4), (10, 4), (11, 2), (12, 2), (13, 4), (14, 3)] (by kernel_rfl) (by kernel_rfl) (fun _ _ _ _ _ h => h) (⟨hx.out.get (j := 2) rfl, (At.left (xs := [tv, nilV]) (BL.all hx.out.drew))⟩) ?_
          iterate 4 (refine Text.purek rfl rfl (fun K hK => ⟨_, fun w' => by go_simp <;> rfl, ?_⟩); go_simp; refine hK _ ?_; clear hK K)
          (refine Text.heldk rfl rfl (fun K hK => ⟨_, fun w' hw' => by go_simp <;> rfl, ?_⟩); go_simp; refine hK _ ?_; clear hK K)
          refine Text.heldk rfl rfl (fun K hK => ?_)
          refine ⟨_, fun w' hw' => exec_loadv 39 (.tmp 40) rfl 2 (by kernel_rfl) y2.heap.size 0 [.string (strB S1), .int .i64 (unz N1)] rfl hw'.2 rfl, ?_⟩
          go_simp
          refine hK _ ?_
          clear hK K
          refine Text.eff rfl rfl (fun K hK => ?_)
          go_simp
          refine (HSUM.out wy.drew sj (hdj.out.kept (Below.refl _ _).drew)).mono ?_
          rintro e z1 ⟨rfl, h1, h2⟩
          rw [← QX.out]
          rw [← Qt1.out] at h1
          have HD1 := Lib.hid h1
          have HK1 : Hid (Kp (· = g) wy z1) := Lib.hid ((Kp.drew (Kp.refl _ wy)).trans h2)
          have HX1 := Lib.hid (HK1.out.bl hx.out (by have := HSZ.out; omega))
          refine hK _ _ ⟨HX1.out.get (j := 2) rfl, At.left (xs := [tv, nilV]) (BL.all HX1.out)⟩ ?_
          clear hK K h1 h2
          (refine Text.purek rfl rfl (fun K hK => ⟨_, fun w' => by go_simp <;> rfl, ?_⟩); go_simp; refine hK _ ?_; clear hK K)
          refine Text.eff rfl rfl (fun K hK => ?_)
          go_simp
          refine (HSUM.out z1 t1 HD1.out).mono ?_
          rintro e z2 ⟨rfl, h1, h2⟩
          rw [← QY.out]
          rw [← Qt2.out] at h1
          have HD2 := Lib.hid h1
          have HK2 : Hid (Kp (· = g) wy z2) := Lib.hid (HK1.out.trans h2)
          have HX2 := Lib.hid (HK2.out.bl hx.out (by have := HSZ.out; omega))
          have HRW2 := Lib.hid (hrw.out.kp HK2.out (fun q e e9 => by have := hown.out q e; have := HSZ.out; omega))
          refine hK _ _ ⟨HX2.out.get (j := 2) rfl, At.left (xs := [tv, nilV]) (BL.all HX2.out)⟩ ?_
          clear hK K h1 h2
          iterate 2 (refine Text.purek rfl rfl (fun K hK => ⟨_, fun w' => by go_simp <;> rfl, ?_⟩); go_simp; refine hK _ ?_; clear hK K)
          refine Text.eff rfl rfl (fun K hK => ?_)
          refine wp_bslice 37 45 1 _ rfl #[(0, .agg (tokC S1 (unz N1) (X, Y)).toArray)] (by rw [List.map_toArray]; rfl) (tokC S1 (unz N1) (X, Y)) (bslTok S1 X Y (unz N1) _) ?_
          intro z3 a1 a2 a3
          have HN3 := Lib.hid a1
          have HX3 := Lib.hid (HX2.out.kept a2)
          have HRW3 := Lib.hid (HRW2.out.kept a2)
          have HD3 := Lib.hid (HD2.out.kept a2)
          have HK3 : Hid (Kp (· = g) wy z3) := Lib.hid (HK2.out.trans (Kp.of_below a2))
          have HLT : Hid (z2.heap.size < z3.heap.size) := Lib.hid (by omega)
          refine hK _ _ ⟨HX3.out.get (j := 2) rfl, At.left (xs := [tv, nilV]) (BL.all HX3.out)⟩ ?_
          clear hK K a1 a2 a3
          refine Text.eff rfl rfl (fun K hK => ?_)
          obtain ⟨iS, i1, i2, i3, i4⟩ := info_some infoTk4
          refine wp_appRW _ (.tmp 39) (.tmp 49) 37 45 4 iS _ rfl Tryz.underlying37 i1 i2 i3 rfl tv m _ rfl HRW3.out z2.heap.size _ rfl HN3.out rfl (tokC_one _ _ _) (by rw [i4]; omega) (by omega) ?_
          intro tv' z4 ap
          have HOW4 : Hid (∀ q, tv'.ownBlock = some q → y2.heap.size < q) := Lib.hid (fun q e => (ap.own q e).elim (hown.out q) (fun h => by have := hx.out.lt; have := HK3.out.size; omega))
          have HX4 := Lib.hid (ap.kp.bl HX3.out (fun e => by have := hown.out _ e; omega))
          have HD4 := Lib.hid (hd.out.new HD3.out ap.kp (fun q e => by have := hown.out q e; have := HSZ.out; omega))
          have HK4 : Hid (Kp (fun q => q = g ∨ tv.ownBlock = some q) wy z4) := Lib.hid ((HK3.out.mono (fun k _ e => .inl e)).trans (ap.kp.mono (fun k _ e => .inr e)))
          have HRW4 : Hid (RW z4 45 4 tv' (m + 1) ((l ++ [(X, Y)]).flatMap (tokC S1 (unz N1)))) := Lib.hid (by
            have h9 := ap.row
            rw [List.flatMap_append]
            simpa using h9)
          refine hK _ _ ⟨HX4.out.get (j := 2) rfl, At.left (xs := [tv, nilV]) (BL.all HX4.out)⟩ ?_
          clear hK K ap i1 i2 i3 i4
          (refine Text.purek rfl rfl (fun K hK => ⟨_, fun w' => by go_simp <;> rfl, ?_⟩); go_simp; refine hK _ ?_; clear hK K)
          refine Text.last rfl rfl (fun K hK => ?_)
          refine wp_store1 _ 37 (.tmp 51) (.tmp 50) rfl (sz1 _ (by kernel_rfl) _) y2.heap.size 2 _ _ tv' rfl rfl HX4.out HRW4.out.cell1.1 HRW4.out.cell1.2 (by simp) ?_
          intro z5 a1 a2 a3
          have HX5' : Hid (BL z5 y2.heap.size 54 [.string (strB S1), .int .i64 (unz N1), tv', nilV]) := Lib.hid a1
          have HRW5 : Hid (RW z5 45 4 tv' (l ++ [(X, Y)]).length ((l ++ [(X, Y)]).flatMap (tokC S1 (unz N1)))) := Lib.hid (by
            rw [List.length_append, ← HM.out]
            exact HRW4.out.kp a2 (fun q e e9 => by have := HOW4.out q e; omega))
          have HD5' := Lib.hid (hd.out.new HD4.out a2 (fun q e => by have := HSZ.out; omega))
          have HK5' : Hid (Kp (· = g) wx z5) := Lib.hid ((hkp.out.after HK4.out (fun i hi e => e.elim id (fun e => by have := hown.out i e; have := HSZ.out; omega))).after a2 (fun i hi e => by have := HSZ.out; omega))
          refine hK _ _ ?_
          clear hK K a1 a2 a3
          refine Text.done ?_
          go_wp2_with fail
          go_roundw
          case rel => exact ⟨k', tv', l ++ [(X, Y)], t2, by omega, by go_num, Lib.hid (by rw [List.length_append]; have := hlk.out; simp; omega), HNX2, HX5', HRW5, HOW4, HD5', HK5'⟩
          case measure => simp [intOf]
        · obtain rfl : k = 0 := by omega
          have hTe : (l, sj) = TT := htt.out
          have HT1 : Hid (l = TT.1 ∧ sj = TT.2) := Lib.hid (by rw [← hTe]; exact ⟨rfl, rfl⟩)
          clear hTe htt
          have HL1 : Hid (∀ q, tv.ownBlock = some q → q < wy.heap.size) := Lib.hid (fun q e => hrw.out.lt e)
          rw [HT1.out.1] at hrw
          rw [HT1.out.2] at hdj
          clear hlk HT1
          go_wp2_with (go_at_call 41; refine (HCNT.out wy TT.2 hdj.out).mono ?_; rintro e y7 ⟨rfl, h1, h2⟩; rw [← QC2.out]; rw [← Qs5.out] at h1; have HD7 := Lib.hid h1; have HX7 := Lib.hid (h2.bl hx.out (by have := HSZ.out; omega)); have HZ7 : Hid (wy.heap.size ≤ y7.heap.size) := Lib.hid h2.size; have HT7 := Lib.hid (hrw.out.kp h2 (fun q e e9 => by have := hown.out q e; have := HSZ.out; omega)); have HK7 := Lib.hid (hkp.out.trans h2); clear h1 h2)
          go_loopw [9] (fun iv wr => ∃ (k : Nat) (uv : Value) (l : List (List UInt8)) (sj : Rd), k ≤ C2 ∧ iv = .int .i64 (k : Int) ∧ Hid (l.length + k = C2) ∧ Hid (rdUs b k (l, sj) = UU) ∧ Hid (BL wr y2.heap.size 54 [.string (strB S1), .int .i64 (unz N1), tv, uv]) ∧ Hid (RW wr 45 4 tv TT.1.length (TT.1.flatMap (tokC S1 (unz N1)))) ∧ Hid (RW wr 9 1 uv l.length (l.map usC)) ∧ Hid (∀ q, uv.ownBlock = some q → wy.heap.size ≤ q) ∧ Hid (RfS wr g A n c b sj) ∧ Hid (Kp (· = g) wx wr) ∧ Hid (wy.heap.size ≤ wr.heap.size)) (fun iv _ => (intOf iv).toNat)
          case atStart => exact ⟨C2, nilV, [], s5, by omega, rfl, Lib.hid (Nat.zero_add _), Lib.hid HUU.out.symm, HX7, HT7, Lib.hid (RW.nil _ _ _), Lib.hid (fun q e => by cases e), HD7, HK7, HZ7⟩
          case round =>
            have HGY : Hid (y2.heap.size < wy.heap.size) := Lib.hid hx.out.lt
            clear hx hrw hdj hkp HX7 HT7 HD7 HK7 HZ7
            obtain ⟨k, uv, l, sj, hk, rfl, hlk, huu, hx, hrt, hru, hown2, hdj, hkp, hge⟩ := hrel
            obtain ⟨wu, hwu⟩ : ∃ x, x = wr := ⟨_, rfl⟩
            rw [← hwu] at hx hrt hru hdj hkp hge ⊢
            clear hwu
            have hk4 : (k : Int) ≤ 4096 := by omega
            by_cases hkl : 0 < k
            · obtain ⟨k', rfl⟩ : ∃ k', k = k' + 1 := ⟨k - 1, by omega⟩
              have f1 : decide ((0 : Int) < ((k' + 1 : Nat) : Int)) = true := decide_eq_true (by omega)
              obtain ⟨X, hX⟩ : ∃ z, z = (rdV [] sD b sj).1 := ⟨_, rfl⟩
              obtain ⟨t1, ht1⟩ : ∃ z, z = (rdV [] sD b sj).2 := ⟨_, rfl⟩
              have HNX2 : Hid (rdUs b k' (l ++ [X], t1) = UU) := Lib.hid (by
                have h9 := huu.out
                rw [rdUs] at h9
                simp only [← hX, ← ht1] at h9
                exact h9)
              have QX := Lib.hid hX
              have Qt1 := Lib.hid ht1
              obtain ⟨m, hm⟩ : ∃ m, m = l.length := ⟨_, rfl⟩
              have HM := Lib.hid hm
              rw [← hm] at hru
              have hm4 : m ≤ 4096 := by have := hlk.out; have := HC2.out; omega
              clear hX ht1 hm
              go_wp2_with fail
              refine Text.wp_region_text (fun w' => w'.cell? ⟨y2.heap.size, 3, none⟩ = some uv) [(0, 4), (2, 4), (1, 0), (3, 2), (4, 4), (5, 2), (6, 2), (7, 4), (8, 3)] (by kernel_rfl) (by kernel_rfl) (fun _ _ _ _ _ h => h) (hx.out.get (j := 3) rfl) ?_
              iterate 2 (refine Text.purek rfl rfl (fun K hK => ⟨_, fun w' => by go_simp <;> rfl, ?_⟩); go_simp; refine hK _ ?_; clear hK K)
              (refine Text.heldk rfl rfl (fun K hK => ⟨_, fun w' hw' => by go_simp <;> rfl, ?_⟩); go_simp; refine hK _ ?_; clear hK K)
              refine Text.eff rfl rfl (fun K hK => ?_)
              go_simp
              refine (HSUM.out wu.drew sj (hdj.out.kept (Below.refl _ _).drew)).mono ?_
              rintro e z2 ⟨rfl, h1, h2⟩
              rw [← QX.out]
              rw [← Qt1.out] at h1
              have HD2 := Lib.hid h1
              have HK2 : Hid (Kp (· = g) wu z2) := Lib.hid ((Kp.drew (Kp.refl _ wu)).trans h2)
              have HX2 := Lib.hid (HK2.out.bl hx.out (by have := HSZ.out; omega))
              have HRT2 := Lib.hid (hrt.out.kp HK2.out (fun q e e9 => by have := hown.out q e; have := HSZ.out; omega))
              have HRU2 := Lib.hid (hru.out.kp HK2.out (fun q e e9 => by have := hown2.out q e; have := HGY.out; have := HSZ.out; omega))
              refine hK _ _ (HX2.out.get (j := 3) rfl) ?_
              clear hK K h1 h2
              (refine Text.purek rfl rfl (fun K hK => ⟨_, fun w' => by go_simp <;> rfl, ?_⟩); go_simp; refine hK _ ?_; clear hK K)
              refine Text.eff rfl rfl (fun K hK => ?_)
              refine wp_bslice 52 9 1 _ rfl #[(0, .string (strB X))] (by rw [List.map_toArray]; rfl) [.string (strB X)] (bslS X _) ?_
              intro z3 a1 a2 a3
              have HN3 := Lib.hid a1
              have HX3 := Lib.hid (HX2.out.kept a2)
              have HRT3 := Lib.hid (HRT2.out.kept a2)
              have HRU3 := Lib.hid (HRU2.out.kept a2)
              have HD3 := Lib.hid (HD2.out.kept a2)
              have HK3 : Hid (Kp (· = g) wu z3) := Lib.hid (HK2.out.trans (Kp.of_below a2))
              have HLT : Hid (z2.heap.size < z3.heap.size) := Lib.hid (by omega)
              refine hK _ _ (HX3.out.get (j := 3) rfl) ?_
              clear hK K a1 a2 a3
              refine Text.eff rfl rfl (fun K hK => ?_)
              obtain ⟨iS, i1, i2, i3, i4⟩ := info_some infoStr
              refine wp_appRW _ (.tmp 60) (.tmp 64) 52 9 1 iS _ rfl Tryz.underlying52 i1 i2 i3 rfl uv m _ rfl HRU3.out z2.heap.size _ rfl HN3.out rfl (one_val _ rfl) (by rw [i4]; omega) (by omega) ?_
              intro uv' z4 ap
              have HOW4 : Hid (∀ q, uv'.ownBlock = some q → wy.heap.size ≤ q) := Lib.hid (fun q e => (ap.own q e).elim (hown2.out q) (fun h => by have := hge.out; have := HK3.out.size; omega))
              have HX4 := Lib.hid (ap.kp.bl HX3.out (fun e => by have := hown2.out _ e; have := HGY.out; omega))
              have HRT4 := Lib.hid (HRT3.out.kp ap.kp (fun q e e9 => by have := hown2.out q e9; have := HL1.out q e; omega))
              have HD4 := Lib.hid (hd.out.new HD3.out ap.kp (fun q e => by have := hown2.out q e; have := HGY.out; have := HSZ.out; omega))
              have HK4 : Hid (Kp (fun q => q = g ∨ uv.ownBlock = some q) wu z4) := Lib.hid ((HK3.out.mono (fun k _ e => .inl e)).trans (ap.kp.mono (fun k _ e => .inr e)))
              have HRU4 : Hid (RW z4 9 1 uv' (m + 1) ((l ++ [X]).map usC)) := Lib.hid (by
                have h9 := ap.row
                rw [List.map_append]
                exact h9)
              refine hK _ _ (HX4.out.get (j := 3) rfl) ?_
              clear hK K ap i1 i2 i3 i4
              (refine Text.purek rfl rfl (fun K hK => ⟨_, fun w' => by go_simp <;> rfl, ?_⟩); go_simp; refine hK _ ?_; clear hK K)
              refine Text.last rfl rfl (fun K hK => ?_)
              refine wp_store1 _ 52 (.tmp 66) (.tmp 65) rfl (sz1 _ (by kernel_rfl) _) y2.heap.size 3 _ _ uv' rfl rfl HX4.out HRU4.out.cell1.1 HRU4.out.cell1.2 (by simp) ?_
              intro z5 a1 a2 a3
              have HX5' : Hid (BL z5 y2.heap.size 54 [.string (strB S1), .int .i64 (unz N1), tv, uv']) := Lib.hid a1
              have HRT5 := Lib.hid (HRT4.out.kp a2 (fun q e e9 => by have := hown.out q e; omega))
              have HRU5 : Hid (RW z5 9 1 uv' (l ++ [X]).length ((l ++ [X]).map usC)) := Lib.hid (by
                rw [List.length_append, ← HM.out]
                exact HRU4.out.kp a2 (fun q e e9 => by have := HOW4.out q e; have := HGY.out; omega))
              have HD5' := Lib.hid (hd.out.new HD4.out a2 (fun q e => by have := HSZ.out; omega))
              have HK5' : Hid (Kp (· = g) wx z5) := Lib.hid ((hkp.out.after HK4.out (fun i hi e => e.elim id (fun e => by have := hown2.out i e; have := HGY.out; have := HSZ.out; omega))).after a2 (fun i hi e => by have := HSZ.out; omega))
              have HGE5 : Hid (wy.heap.size ≤ z5.heap.size) := Lib.hid (by rw [a3]; exact Nat.le_trans hge.out HK4.out.size)
              refine hK _ _ ?_
              clear hK K a1 a2 a3
              refine Text.done ?_
              go_wp2_with fail
              go_roundw
              case rel => exact ⟨k', uv', l ++ [X], t1, by omega, by go_num, Lib.hid (by rw [List.length_append]; have := hlk.out; simp; omega), HNX2, HX5', HRT5, HRU5, HOW4, HD5', HK5', HGE5⟩
              case measure => simp [intOf]
            · obtain rfl : k = 0 := by omega
              have hUe : (l, sj) = UU := huu.out
              have HU1 : Hid (l = UU.1 ∧ sj = UU.2) := Lib.hid (by rw [← hUe]; exact ⟨rfl, rfl⟩)
              clear hUe huu
              rw [HU1.out.1] at hru
              rw [HU1.out.2] at hdj
              clear hlk HU1
              have HSX : Hid (SOf wu ⟨⟨S1, unz N1, TT.1, UU.1⟩, tv, uv⟩) := Lib.hid ⟨hrt.out, hru.out, by show TT.1.length ≤ 100000; have := HC1.out; omega, by show UU.1.length ≤ 100000; have := HC2.out; omega⟩
              have HNEW : Hid (∀ q, Se.has ⟨⟨S1, unz N1, TT.1, UU.1⟩, tv, uv⟩ q → wx.heap.size ≤ q) := Lib.hid (fun q e => e.elim (fun e => by have := hown.out q e; have := HSZ.out; omega) (fun e => by have := hown2.out q e; have := HGY.out; have := HSZ.out; omega))
              have HONE : Hid (∀ v ∈ [Value.string (strB S1), .int .i64 (unz N1), tv, uv], v.oneCell' = true) := Lib.hid (seC_onef HSX.out)
              have HRLU := Lib.hid (hrl.out.kp hkp.out (fun q hq e => by have := HSZ.out; omega))
              have HBU : Hid (Below w.heap.size w wu) := Lib.hid (low_own hb.out hkp.out (fun i hi e => by have := HG.out; omega))
              obtain ⟨er, her⟩ : ∃ z, z = UU.2.err := ⟨_, rfl⟩
              have HER := Lib.hid her
              have hrs4 : rs.length ≤ 4096 := by have := hl.out; have := HC4.out; omega
              clear her hru hrt
              by_cases he : er = 0
              · have fbr : (er != 0) = false := by rw [he]; rfl
                clear he
                go_wp2_with (first
                  | ((with_reducible show wpList _ _ _ (⟨some 68, _, _, _, _, _⟩ :: _) _ _); refine wpList_loadv _ rfl 54 (.tmp 7) rfl 4 (by kernel_rfl) y2.heap.size 0 [.string (strB S1), .int .i64 (unz N1), tv, uv] rfl (BL.all hx.out) rfl ?_)
                  | ((with_reducible show wpList _ _ _ (⟨some 69, _, _, _, _, _⟩ :: _) _ _); refine wpList_bslice _ rfl 29 54 1 _ rfl #[(0, .agg [.string (strB S1), .int .i64 (unz N1), tv, uv].toArray)] (by rw [List.map_toArray]; rfl) [.string (strB S1), .int .i64 (unz N1), tv, uv] (by exact bslReF _ _ _ _ _) ?_; intro y3 a1 a2 a3; have HN3 := Lib.hid a1; have HRL3 := Lib.hid (HRLU.out.kept a2); have HSX3 := Lib.hid (HSX.out.kept a2); have HD3 := Lib.hid (hdj.out.kept a2); have HB3 := Lib.hid (below_thenB HBU.out HBU.out.size a2); have HZ3 : Hid (wx.heap.size ≤ y3.heap.size) := Lib.hid (Nat.le_trans hkp.out.size a2.size); clear a1 a2 a3)
                  | ((with_reducible show wpList _ _ _ (⟨some 70, _, _, _, _, _⟩ :: _) _ _); obtain ⟨iS, i1, i2, i3, i4⟩ := info_some infoReF; refine wpList_appRW _ rfl (.tmp 67) (.tmp 69) 29 54 4 iS _ rfl Tryz.underlying29 i1 i2 i3 rfl _ _ _ rfl HRL3.out.row wu.heap.size _ rfl HN3.out rfl HONE.out (by rw [i4]; omega) (by omega) ?_; intro v4 y8 ap; have HRL8 : Hid (RLf y8 w1.heap.size v4 (rs ++ [⟨⟨S1, unz N1, TT.1, UU.1⟩, tv, uv⟩])) := Lib.hid (RLf.push hrl.out HRL3.out HSX3.out HNEW.out hz.out HZ3.out ap); have HD8 := Lib.hid (hd0.out.new HD3.out ap.kp (fun q e => HRL3.out.vlo q e)); have HB8 : Hid (Below w.heap.size w y8) := Lib.hid (low_own HB3.out ap.kp (fun i hi e => by have := HRL3.out.vlo i e; have := HG.out; have := HGL.out; omega)); have HZ8 : Hid (w1.heap.size ≤ y8.heap.size) := Lib.hid (Nat.le_trans hz.out (Nat.le_trans HZ3.out ap.kp.size)); have HEND : Hid (endR n UU.2 = if er = 0 then endR n UU.2 else er) := Lib.hid (by by_cases h : er = 0 <;> simp only [h, if_true, if_false]; rw [endR, if_neg (by rw [← HER.out]; exact h), HER.out]); obtain ⟨⟨l9, h9⟩, _⟩ := HD8.out; have q9 : y8.cell? ⟨g, 3, none⟩ = some (.int .i64 er) := (by rw [HER.out]; exact h9.get (j := 3) rfl); clear ap i1 i2 i3 i4 h9)
                  | fail)
                go_roundw
                case rel => exact ⟨r', rs ++ [⟨⟨S1, unz N1, TT.1, UU.1⟩, tv, uv⟩], UU.2, by omega, by go_num, Lib.hid (by rw [List.length_append]; have := hl.out; simp; omega), Lib.hid (HNX.out _ rfl), HRL8, HD8, HB8, HZ8⟩
                case measure => simp [intOf]
              · have fbr : (er != 0) = true := by rw [bne_iff_ne]; exact he
                have HENE := Lib.hid he
                clear he
                go_wp2_with (first
                  | ((with_reducible show wpList _ _ _ (⟨some 68, _, _, _, _, _⟩ :: _) _ _); refine wpList_loadv _ rfl 54 (.tmp 7) rfl 4 (by kernel_rfl) y2.heap.size 0 [.string (strB S1), .int .i64 (unz N1), tv, uv] rfl (BL.all hx.out) rfl ?_)
                  | ((with_reducible show wpList _ _ _ (⟨some 69, _, _, _, _, _⟩ :: _) _ _); refine wpList_bslice _ rfl 29 54 1 _ rfl #[(0, .agg [.string (strB S1), .int .i64 (unz N1), tv, uv].toArray)] (by rw [List.map_toArray]; rfl) [.string (strB S1), .int .i64 (unz N1), tv, uv] (by exact bslReF _ _ _ _ _) ?_; intro y3 a1 a2 a3; have HN3 := Lib.hid a1; have HRL3 := Lib.hid (HRLU.out.kept a2); have HSX3 := Lib.hid (HSX.out.kept a2); have HD3 := Lib.hid (hdj.out.kept a2); have HB3 := Lib.hid (below_thenB HBU.out HBU.out.size a2); have HZ3 : Hid (wx.heap.size ≤ y3.heap.size) := Lib.hid (Nat.le_trans hkp.out.size a2.size); clear a1 a2 a3)
                  | ((with_reducible show wpList _ _ _ (⟨some 70, _, _, _, _, _⟩ :: _) _ _); obtain ⟨iS, i1, i2, i3, i4⟩ := info_some infoReF; refine wpList_appRW _ rfl (.tmp 67) (.tmp 69) 29 54 4 iS _ rfl Tryz.underlying29 i1 i2 i3 rfl _ _ _ rfl HRL3.out.row wu.heap.size _ rfl HN3.out rfl HONE.out (by rw [i4]; omega) (by omega) ?_; intro v4 y8 ap; have HRL8 : Hid (RLf y8 w1.heap.size v4 (rs ++ [⟨⟨S1, unz N1, TT.1, UU.1⟩, tv, uv⟩])) := Lib.hid (RLf.push hrl.out HRL3.out HSX3.out HNEW.out hz.out HZ3.out ap); have HD8 := Lib.hid (hd0.out.new HD3.out ap.kp (fun q e => HRL3.out.vlo q e)); have HB8 : Hid (Below w.heap.size w y8) := Lib.hid (low_own HB3.out ap.kp (fun i hi e => by have := HRL3.out.vlo i e; have := HG.out; have := HGL.out; omega)); have HZ8 : Hid (w1.heap.size ≤ y8.heap.size) := Lib.hid (Nat.le_trans hz.out (Nat.le_trans HZ3.out ap.kp.size)); have HEND : Hid (endR n UU.2 = if er = 0 then endR n UU.2 else er) := Lib.hid (by by_cases h : er = 0 <;> simp only [h, if_true, if_false]; rw [endR, if_neg (by rw [← HER.out]; exact h), HER.out]); obtain ⟨⟨l9, h9⟩, _⟩ := HD8.out; have q9 : y8.cell? ⟨g, 3, none⟩ = some (.int .i64 er) := (by rw [HER.out]; exact h9.get (j := 3) rfl); clear ap i1 i2 i3 i4 h9)
                  | (go_at_call 42; refine (rend_any y8 g n c A b UU.2 HD8.out).mono ?_; rintro e9 w9 ⟨⟨z9, rfl⟩, b9⟩; rw [HEND.out]; have HB9 := Lib.hid (below_thenB HB8.out HB8.out.size b9); clear b9))
                go_ret2
                refine ⟨⟨.slice none 0 0, ?_⟩, HB9.out⟩
                have h9 := HNX.out ⟨⟨S1, unz N1, TT.1, UU.1⟩, tv, uv⟩ rfl
                have hne : UU.2.err ≠ 0 := by rw [← HER.out]; exact HENE.out
                have h8 := rdRecs_err b r' ((rs ++ [(⟨⟨S1, unz N1, TT.1, UU.1⟩, tv, uv⟩ : Se)]).map (·.e), UU.2) hne
                rw [h9] at h8
                have h7 : decP b = er := by
                  unfold decP
                  rw [HALL.out, h8]
                  have h7 : endR b.length UU.2 = er := by rw [endR, if_neg hne, HER.out]
                  show (if endR b.length UU.2 = 0 then _ else endR b.length UU.2) = er
                  rw [h7, if_neg HENE.out]
                rw [h7]
                rfl
    · obtain rfl : r = 0 := by omega
      have hRe : (rs.map (·.e), sk) = R := hrr.out
      have HR1 : Hid (rs.map (·.e) = R.1 ∧ sk = R.2) := Lib.hid (by rw [← hRe]; exact ⟨rfl, rfl⟩)
      clear hRe hrr
      rw [HR1.out.2] at hd
      have HRS := Lib.hid HR1.out.1
      clear HR1
      obtain ⟨ez, hez⟩ : ∃ z, z = endR n R.2 := ⟨_, rfl⟩
      have HEZ := Lib.hid hez
      clear hez
      obtain ⟨Av, cv, ev, _⟩ := hrl.out.row.form
      obtain ⟨m, hm⟩ : ∃ m, m = rs.length := ⟨_, rfl⟩
      rw [← hm] at ev
      subst ev
      have hrs4 : rs.length ≤ 4096 := by have := hl.out; have := HC4.out; omega
      clear hm
      by_cases h0 : ez = 0
      · subst h0
        obtain ⟨VB, hVB⟩ : ∃ B : Bool, B = (validE none R.1 && decide (sizeE R.1 ≤ 4096)) := ⟨_, rfl⟩
        have HVB := Lib.hid hVB
        have HDP : Hid (decP b = if VB = true then 0 else 3) := Lib.hid (by
          unfold decP
          rw [HALL.out, HL.out, ← HEZ.out, if_pos rfl, HVB.out]
          simp only [Bool.and_eq_true, decide_eq_true_eq])
        clear hVB
        cases VB with
        | true =>
          go_wp2_with (first
            | (go_at_call 42; refine (rend_any wx g n c A b R.2 hd.out).mono ?_; rintro e9 w9 ⟨⟨z9, rfl⟩, b9⟩; rw [← HEZ.out]; have HB9 := Lib.hid (below_thenB hb.out hb.out.size b9); have HRL9 := Lib.hid (hrl.out.kept b9); clear b9)
            | (go_at_call 43; refine (rvalid_any w9 w1.heap.size _ rs HRL9.out hrs4).mono ?_; rintro e9 w10 ⟨rfl, b9⟩; rw [HRS.out, ← HVB.out]; have HB10 := Lib.hid (below_thenB HB9.out HB9.out.size b9); clear b9)
            | fail)
          go_ret2
          exact ⟨⟨_, by rw [HDP.out]; rfl⟩, HB10.out⟩
        | false =>
          go_wp2_with (first
            | (go_at_call 42; refine (rend_any wx g n c A b R.2 hd.out).mono ?_; rintro e9 w9 ⟨⟨z9, rfl⟩, b9⟩; rw [← HEZ.out]; have HB9 := Lib.hid (below_thenB hb.out hb.out.size b9); have HRL9 := Lib.hid (hrl.out.kept b9); clear b9)
            | (go_at_call 43; refine (rvalid_any w9 w1.heap.size _ rs HRL9.out hrs4).mono ?_; rintro e9 w10 ⟨rfl, b9⟩; rw [HRS.out, ← HVB.out]; have HB10 := Lib.hid (below_thenB HB9.out HB9.out.size b9); clear b9)
            | fail)
          go_ret2
          exact ⟨⟨_, by rw [HDP.out]; rfl⟩, HB10.out⟩
      · have fz : (ez != 0) = true := by rw [bne_iff_ne]; exact h0
        have HDP : Hid (decP b = ez) := Lib.hid (by
          unfold decP
          rw [HALL.out, HL.out, ← HEZ.out, if_neg h0])
        clear h0
        go_wp2_with (first
          | (go_at_call 42; refine (rend_any wx g n c A b R.2 hd.out).mono ?_; rintro e9 w9 ⟨⟨z9, rfl⟩, b9⟩; rw [← HEZ.out]; have HB9 := Lib.hid (below_thenB hb.out hb.out.size b9); have HRL9 := Lib.hid (hrl.out.kept b9); clear b9)
          | (go_at_call 43; refine (rvalid_any w9 w1.heap.size _ rs HRL9.out hrs4).mono ?_; rintro e9 w10 ⟨rfl, b9⟩; rw [HRS.out, ← HVB.out]; have HB10 := Lib.hid (below_thenB HB9.out HB9.out.size b9); clear b9)
          | fail)
        go_ret2
        exact ⟨⟨_, by rw [HDP.out]; rfl⟩, HB9.out⟩
end Go.Proofs.YtheijpjfpaghfaaGreatDoor
