/- Contract of polynomial.DivMod. -/
import Derived.Test.YtakedococfklgaaB1
namespace Go.Proofs.Ytakedococfklgaa
open Go.RowKit Gf

attribute [local go_sem] Gf.xor_bits Gf.and_bits Gf.or_bits Gf.ne_zero_iff Gf.eq_zero_iff Gf.eq_one_iff Gf.beq_bytes Gf.bne_bytes Gf.bv_toNat

/-- Quotient and rest, in memory of their own. -/
def DivRet (s : List UInt8 × List UInt8) (w : World) (e : Ending) (w' : World) : Prop :=
  ∃ A n c A' n' c' r, e = .returned (.tuple #[.slice A n c, .slice A' n' c', .int .i64 r]) ∧ BS w' A n c s.1 ∧ BS w' A' n' c' s.2 ∧ AtB A (w.heap.size ≤ ·) ∧ AtB A' (w.heap.size ≤ ·) ∧ Below w.heap.size w w'

theorem divK_len (d : List UInt8) (iv : UInt8) (last : Nat) : ∀ i s, (Py.divK d iv last i s).1.length = s.1.length ∧ (Py.divK d iv last i s).2.length = s.2.length
  | 0, s => ⟨rfl, rfl⟩
  | i + 1, s => by rw [Py.divK]; have := divK_len d iv last i (s.1.set i (mul (gB s.2 (i + last)) iv), Py.addAt s.2 i d (mul (gB s.2 (i + last)) iv)); simpa [Py.addAt_length] using this

/-- What the rounds keep. -/
def DivI (d : List UInt8) (iv : UInt8) (last m a gq gr k : Nat) (S : List UInt8 × List UInt8) (wr : World) : Prop :=
  ∃ s : List UInt8 × List UInt8, OB wr gq 5 m s.1 ∧ OB wr gr 5 a s.2 ∧ s.1.length = m ∧ s.2.length = a ∧ Py.divK d iv last k s = S

set_option maxRecDepth 100000 in
set_option maxHeartbeats 1000000 in
theorem divmod_any (A A' : Option Addr) (n c n' c' : Nat) (p q : List UInt8) (w : World) (hp : BS w A n c p) (hq : BS w A' n' c' q) :
    Calls Try.prog 87 #[.slice A n c, .slice A' n' c'] w (DivRet (Py.divP p q) w) := by
  have hn := hp.len_le
  have hn' := hq.len_le
  have HTP := Lib.hid (Py.trim_length p)
  have HTQ := Lib.hid (Py.trim_length q)
  have htp : Py.tl p ≤ 140737488355328 := by have := Py.tl_le p; rw [hp.1] at this; omega
  have htq : Py.tl q ≤ 140737488355328 := by have := Py.tl_le q; rw [hq.1] at this; omega
  have HTN : Hid (0 < Py.tl q → gB (Py.trim q) (Py.tl q - 1) ≠ 0) := Lib.hid (fun h => by rw [Py.gB_trim]; exact Py.tl_top q h)
  have HP := Lib.hid hp
  have HQ := Lib.hid hq
  clear hp hq
  obtain ⟨a, ha⟩ : ∃ a, a = Py.tl p := ⟨_, rfl⟩
  obtain ⟨b, hb⟩ : ∃ b, b = Py.tl q := ⟨_, rfl⟩
  rw [← ha] at HTP htp
  rw [← hb] at HTQ htq HTN
  clear ha hb
  obtain ⟨P', hP'⟩ : ∃ P', P' = Py.trim p := ⟨_, rfl⟩
  obtain ⟨D, hD⟩ : ∃ D, D = Py.trim q := ⟨_, rfl⟩
  have HM : Hid (Py.divP p q = if b = 0 then ([], []) else ((Py.divK D (inv (gB D (b - 1))) (b - 1) (a - (b - 1)) (zeros (a - (b - 1)), P')).1, Py.trim (Py.divK D (inv (gB D (b - 1))) (b - 1) (a - (b - 1)) (zeros (a - (b - 1)), P')).2)) := Lib.hid (by unfold Py.divP; rw [HTP.out, HTQ.out, hP', hD])
  rw [← hP'] at HTP
  rw [← hD] at HTQ HTN
  have HP' := Lib.hid hP'
  have HD := Lib.hid hD
  clear hP' hD
  go_enter Try.func87, Try.ntmps87
  go_wp2_with fail
  refine (trim_any _ _ _ _ _ HP.out).mono ?_
  rintro e w1 ⟨v1, rfl, g1, n1, rfl, h11, h12, h13, h14⟩
  rw [← HP'.out] at h11 h13
  obtain rfl : a = n1 := by rw [← h11, HTP.out]
  have H13 := Lib.hid h13
  have H14 := Lib.hid h14
  have HQ1 := Lib.hid (HQ.out.kept h14)
  clear h11 h13 h14 HQ HP
  go_wp2_with fail
  refine (trim_any _ _ _ _ _ HQ1.out).mono ?_
  rintro e w2 ⟨v2, rfl, g2, n2, rfl, h21, h22, h23, h24⟩
  rw [← HD.out] at h21 h23
  obtain rfl : b = n2 := by rw [← h21, HTQ.out]
  have H1 := Lib.hid (H13.out.kept h24)
  have H2 := Lib.hid h23
  have HB := Lib.hid (below_then H14.out h24)
  have hg12 : g1 < g2 := by have := H13.out.lt; omega
  have hg2 : g2 < w2.heap.size := h23.lt
  clear h21 h23 h24 H13 H14 HQ1 h22
  by_cases hb0 : b = 0
  · subst hb0
    have HR : Hid (DivRet (Py.divP p q) w (.returned (.tuple #[.slice none 0 0, .slice none 0 0, .int .i64 1])) w2) := Lib.hid (by
      rw [HM.out, if_pos rfl]
      exact ⟨none, 0, 0, none, 0, 0, 1, rfl, BS.nil, BS.nil, (fun _ h => by cases h), (fun _ h => by cases h), HB.out⟩)
    go_wp2_with fail
    go_ret3
    exact HR.out
  have q1 : ((b : Int) == 0) = false := by simp; omega
  obtain ⟨l, rfl⟩ : ∃ l, b = l + 1 := ⟨b - 1, by omega⟩
  have hne : (gB D l == 0) = false := by have := HTN.out (by omega); simpa using this
  obtain ⟨iv, hiv⟩ : ∃ iv, iv = inv (gB D l) := ⟨_, rfl⟩
  obtain ⟨m, hm⟩ : ∃ m, m = a - l := ⟨_, rfl⟩
  obtain ⟨S, hS⟩ : ∃ S, S = Py.divK D iv l m (zeros m, P') := ⟨_, rfl⟩
  have HR : Hid (Py.divP p q = (S.1, Py.trim S.2)) := Lib.hid (by rw [HM.out, if_neg (by omega), Nat.add_sub_cancel, ← hiv, ← hm, ← hS])
  have HS := Lib.hid hS
  have HIV := Lib.hid hiv
  have HMM := Lib.hid hm
  clear HM hS hiv hm
  have c0 : w2.cell? ⟨g2, l, none⟩ = some (B (gB D l)) := by
    rw [H2.out.cell, row_get _ _ (by rw [HTQ.out]; omega)]
  have s0 : ((l + 1 : Nat) : Int) - 1 = (l : Int) := by omega
  have hmk := make_bytes m (by have := HMM.out; omega)
  have HN0 := Lib.hid hb0
  clear hb0
  have hmk0 : m = 0 → ∀ w : World, (Instr.makeSlice 22 (.int .i64 0) (.int .i64 0)).run Try.prog w = .ok (.slice (some ⟨w.heap.size, 0, none⟩) m m) (w.alloc (.cells (row (zeros m)) 5)) := fun e w => by subst e; exact make_bytes 0 (by omega) w
  have HK0 := Lib.hid hmk0
  clear hmk0
  have hmb : m ≤ 140737488355328 := by have := HMM.out; omega
  by_cases hal : a < l
  · have hx : (a : Int) - (l : Int) < 0 := by omega
    have hmk1 := HK0.out (by have := HMM.out; omega)
    clear hmk
    go_wp2_with (go_at_call 101; refine (inv_any _ hne _).mono ?_; rintro e w' ⟨rfl, rfl⟩)
    clear hmk1
    clear s0 q1 c0 hx
    rw [← HIV.out]
    go_loopw [13] (fun d wr => ∃ (z : Int) (k : Nat), d = .int .i64 z ∧ -1 ≤ z ∧ z < m ∧ Hid (z + 1 = k) ∧ Hid (DivI D iv l m a w2.heap.size g1 k S wr) ∧ Hid (Blk wr g2 5 (row D)) ∧ Hid (Below w.heap.size w wr)) (fun d _ => (intOf d + 1).toNat)
    case atStart =>
      refine ⟨(m : Int) - 1, m, rfl, by omega, by omega, Lib.hid (by omega), Lib.hid ⟨(zeros m, P'), ?_, ?_, zeros_length m, HTP.out, HS.out.symm⟩, Lib.hid (H2.out.alloc _), Lib.hid (HB.out.alloc HB.out.size _)⟩
      · have := OB.of_blk (l := zeros m) (Blk.new w2 5 _)
        rw [zeros_length] at this
        exact this
      · have := OB.of_blk (l := P') (H1.out.alloc (.cells (row (zeros m)) 5))
        rw [HTP.out] at this
        exact this
    case round =>
      obtain ⟨z, k, rfl, hz1, hz2, hk, hI, hD, hb⟩ := hrel
      by_cases h0 : z < 0
      · have qz : decide (0 ≤ z) = false := by simp; omega
        have HSS : Hid (OB wr w2.heap.size 5 m S.1 ∧ OB wr g1 5 a S.2 ∧ S.1.length = m ∧ S.2.length = a) := Lib.hid (by
          obtain ⟨s, h1, h2, h3, h4, h5⟩ := hI.out
          have hk' := hk.out
          obtain rfl : k = 0 := by omega
          rw [Py.divK] at h5
          subst h5
          exact ⟨h1, h2, h3, h4⟩)
        have HBS : Hid (BS wr (some ⟨g1, 0, none⟩) a a S.2) := Lib.hid (by
          obtain ⟨_, h2, _, h4⟩ := HSS.out
          have := h2.bs0 (c := a) (by omega) (by unfold lim; omega)
          rw [h4] at this
          exact this)
        clear hk hI
        go_wp2_with fail
        refine (trim_any _ _ _ _ _ HBS.out).mono ?_
        rintro e w3 ⟨v3, rfl, g3, n3, rfl, h31, h32, h33, h34⟩
        have HRR : Hid (DivRet (Py.divP p q) w (.returned (.tuple #[.slice (some ⟨w2.heap.size, 0, none⟩) m m, .slice (some ⟨g3, 0, none⟩) n3 n3, .int .i64 0])) w3) := Lib.hid (by
          rw [HR.out]
          obtain ⟨h1, _, h3, _⟩ := HSS.out
          refine ⟨_, _, _, _, _, _, _, rfl, ?_, BS.of_blk h33 h31 ?_, (fun a e => by cases e; exact HB.out.size), (fun a e => by cases e; exact Nat.le_trans hb.out.size h32), below_then hb.out h34⟩
          · have := (h1.kept h34).bs0 (c := m) (by omega) (by unfold lim; omega)
            rw [h3] at this
            exact this
          · have h5 := Py.tl_le S.2
            have h6 := Py.trim_length S.2
            have h7 := HSS.out.2.2.2
            unfold lim
            omega)
        clear h31 h32 h33 h34
        go_wp2_with fail
        go_ret3
        exact HRR.out
      · obtain ⟨j, rfl⟩ : ∃ j : Nat, z = (j : Int) := ⟨z.toNat, by omega⟩
        have hj : j < m := by omega
        exfalso
        have := HMM.out
        omega
  · have hx : ¬ (a : Int) - (l : Int) < 0 := by omega
    have s1 : (a : Int) - (l : Int) = (m : Int) := by have := HMM.out; omega
    go_wp2_with (go_at_call 101; refine (inv_any _ hne _).mono ?_; rintro e w' ⟨rfl, rfl⟩)
    clear hmk s1
    clear s0 q1 c0 hx
    rw [← HIV.out]
    go_loopw [13] (fun d wr => ∃ (z : Int) (k : Nat), d = .int .i64 z ∧ -1 ≤ z ∧ z < m ∧ Hid (z + 1 = k) ∧ Hid (DivI D iv l m a w2.heap.size g1 k S wr) ∧ Hid (Blk wr g2 5 (row D)) ∧ Hid (Below w.heap.size w wr)) (fun d _ => (intOf d + 1).toNat)
    case atStart =>
      refine ⟨(m : Int) - 1, m, rfl, by omega, by omega, Lib.hid (by omega), Lib.hid ⟨(zeros m, P'), ?_, ?_, zeros_length m, HTP.out, HS.out.symm⟩, Lib.hid (H2.out.alloc _), Lib.hid (HB.out.alloc HB.out.size _)⟩
      · have := OB.of_blk (l := zeros m) (Blk.new w2 5 _)
        rw [zeros_length] at this
        exact this
      · have := OB.of_blk (l := P') (H1.out.alloc (.cells (row (zeros m)) 5))
        rw [HTP.out] at this
        exact this
    case round =>
      obtain ⟨z, k, rfl, hz1, hz2, hk, hI, hD, hb⟩ := hrel
      by_cases h0 : z < 0
      · have qz : decide (0 ≤ z) = false := by simp; omega
        have HSS : Hid (OB wr w2.heap.size 5 m S.1 ∧ OB wr g1 5 a S.2 ∧ S.1.length = m ∧ S.2.length = a) := Lib.hid (by
          obtain ⟨s, h1, h2, h3, h4, h5⟩ := hI.out
          have hk' := hk.out
          obtain rfl : k = 0 := by omega
          rw [Py.divK] at h5
          subst h5
          exact ⟨h1, h2, h3, h4⟩)
        have HBS : Hid (BS wr (some ⟨g1, 0, none⟩) a a S.2) := Lib.hid (by
          obtain ⟨_, h2, _, h4⟩ := HSS.out
          have := h2.bs0 (c := a) (by omega) (by unfold lim; omega)
          rw [h4] at this
          exact this)
        clear hk hI
        go_wp2_with fail
        refine (trim_any _ _ _ _ _ HBS.out).mono ?_
        rintro e w3 ⟨v3, rfl, g3, n3, rfl, h31, h32, h33, h34⟩
        have HRR : Hid (DivRet (Py.divP p q) w (.returned (.tuple #[.slice (some ⟨w2.heap.size, 0, none⟩) m m, .slice (some ⟨g3, 0, none⟩) n3 n3, .int .i64 0])) w3) := Lib.hid (by
          rw [HR.out]
          obtain ⟨h1, _, h3, _⟩ := HSS.out
          refine ⟨_, _, _, _, _, _, _, rfl, ?_, BS.of_blk h33 h31 ?_, (fun a e => by cases e; exact HB.out.size), (fun a e => by cases e; exact Nat.le_trans hb.out.size h32), below_then hb.out h34⟩
          · have := (h1.kept h34).bs0 (c := m) (by omega) (by unfold lim; omega)
            rw [h3] at this
            exact this
          · have h5 := Py.tl_le S.2
            have h6 := Py.trim_length S.2
            have h7 := HSS.out.2.2.2
            unfold lim
            omega)
        clear h31 h32 h33 h34
        go_wp2_with fail
        go_ret3
        exact HRR.out
      · obtain ⟨j, rfl⟩ : ∃ j : Nat, z = (j : Int) := ⟨z.toNat, by omega⟩
        have hj : j < m := by omega
        have hjl : j + l < a := by have := HMM.out; omega
        have hja : j ≤ a := by omega
        have hja2 : ¬ a = j := by omega
        obtain ⟨s, h1, h2, h3, h4, h5⟩ := hI.out
        have H1' := Lib.hid h1
        have H2' := Lib.hid h2
        have H3' := Lib.hid h3
        have H4' := Lib.hid h4
        have H5' : Hid (Py.divK D iv l j (s.1.set j (mul (gB s.2 (j + l)) iv), Py.addAt s.2 j D (mul (gB s.2 (j + l)) iv)) = S) := Lib.hid (by
          have hk' := hk.out
          obtain rfl : k = j + 1 := by omega
          rw [Py.divK] at h5
          exact h5)
        clear h1 h2 h3 h4 h5 hI hk
        have c1 : wr.cell? ⟨g1, j + l, none⟩ = some (B (gB s.2 (j + l))) := H2'.out.cell (by rw [H4'.out]; exact hjl)
        have c2 : wr.cell? ⟨w2.heap.size, j, none⟩ = some (B (gB s.1 j)) := H1'.out.cell (by rw [H3'.out]; exact hj)
        have f2 := H1'.out.frozen j
        have c3 : (wr.setCell ⟨w2.heap.size, j, none⟩ (B (mul (gB s.2 (j + l)) iv))).cell? ⟨w2.heap.size, j, none⟩ = some (B (mul (gB s.2 (j + l)) iv)) := by
          have := (H1'.out.set_ j (mul (gB s.2 (j + l)) iv)).cell (k := j) (by rw [List.length_set, H3'.out]; exact hj)
          rw [this, gB_set _ (by rw [H3'.out]; exact hj), if_pos rfl]
        have q2 : (j == a) = false := by simp; omega
        go_wp2_with (go_at_call 76; refine (mul_any _ _ _).mono ?_; rintro e w' ⟨rfl, rfl⟩)
        obtain ⟨y, hy⟩ : ∃ y, y = mul (gB s.2 (j + l)) iv := ⟨_, rfl⟩
        rw [← hy] at c3 H5' ⊢
        have HY := Lib.hid hy
        clear hy c1 c2 f2
        have HQ2 : Hid (OB (wr.setCell ⟨w2.heap.size, j, none⟩ (B y)) w2.heap.size 5 m (s.1.set j y)) := Lib.hid (H1'.out.set_ j y)
        have HR2 : Hid (OB (wr.setCell ⟨w2.heap.size, j, none⟩ (B y)) g1 5 a s.2) := Lib.hid (H2'.out.far (by simp; omega) _)
        have HD2 : Hid (Blk (wr.setCell ⟨w2.heap.size, j, none⟩ (B y)) g2 5 (row D)) := Lib.hid (hD.out.far (by simp; omega) _)
        have HB2 : Hid (Below w.heap.size w (wr.setCell ⟨w2.heap.size, j, none⟩ (B y))) := Lib.hid (hb.out.setCell HB.out.size _)
        obtain ⟨wx, hwx⟩ : ∃ wx, wx = wr.setCell ⟨w2.heap.size, j, none⟩ (B y) := ⟨_, rfl⟩
        rw [← hwx] at HQ2 HR2 HD2 HB2 c3 ⊢
        clear hwx H1' H2' hD hb
        refine Text.wp_region_text (fun _ => True) [(0, 4), (1, 4), (2, 4), (3, 4), (4, 4), (5, 4), (6, 4), (7, 1), (8, 2)] (by kernel_rfl) (by kernel_rfl) (fun _ _ _ _ _ h => h) (trivial) ?_
        iterate 7 (refine Text.purek rfl rfl (fun K hK => ⟨_, fun w' => by go_simp <;> rfl, ?_⟩); go_simp; refine hK _ ?_; clear hK K)
        (refine Text.readk rfl rfl (fun K hK => ⟨_, by go_simp <;> rfl, ?_⟩); go_simp; refine hK _ ?_; clear hK K)
        refine Text.eff rfl rfl (fun K hK => ?_)
        go_simp
        refine (addTo_any g1 j (a - j) (a - j) a _ s.2 _ (l + 1) (l + 1) D y wx.drew HR2.out (BS.of_blk HD2.out HTQ.out (by unfold lim; omega)).drew (by rw [H4'.out]; omega) (by omega) (by rw [H4'.out]; unfold lim; omega)).mono ?_
        rintro e w4 ⟨rfl, h41, h42⟩
        refine hK _ _ trivial ?_
        have hgd : Hid (w.heap.size ≤ g1) := Lib.hid h12
        have HB4 : Hid (Below w.heap.size w w4) := Lib.hid ((below_drewN HB2.out 1).trans (h42.below (by exact HB2.out.size) (fun k e => by rw [e]; exact hgd.out)))
        have HI4 : Hid (DivI D iv l m a w2.heap.size g1 j S w4) := Lib.hid ⟨(s.1.set j y, Py.addAt s.2 j D y), by
            obtain ⟨cs, z1, z2⟩ := HQ2.out
            exact ⟨cs, h42.blk z1 (by omega), z2⟩, h41, by rw [List.length_set]; exact H3'.out, by rw [Py.addAt_length]; exact H4'.out, H5'.out⟩
        have HD4 : Hid (Blk w4 g2 5 (row D)) := Lib.hid (h42.blk HD2.out (by omega))
        clear hK K h41 h42 c3 HQ2 HR2 HD2 HB2
        refine Text.done ?_
        go_wp2_with fail
        go_roundw
        case rel => exact ⟨(j : Int) - 1, j, rfl, by omega, by omega, Lib.hid (by omega), HI4, HD4, HB4⟩
        case measure => simp [intOf]
end Go.Proofs.Ytakedococfklgaa
