/- Contract of polynomial.Mul. -/
import Derived.Test.YtakedococfklgaaPo1
import Derived.Test.YtakedococfklgaaText
namespace Go.Proofs.Ytakedococfklgaa
open Go.RowKit Gf

/-- Two results: bytes in memory of their own, and an error. -/
def GvB0 (l : List UInt8) (w : World) (e : Ending) (w' : World) : Prop := ∃ v r, e = .returned (.tuple #[v, .int .i64 r]) ∧ GvB l w v w'

set_option maxRecDepth 100000 in
set_option maxHeartbeats 1000000 in
theorem pmul_any (A A' : Option Addr) (n c n' c' : Nat) (p q : List UInt8) (w : World) (hp : BS w A n c p) (hq : BS w A' n' c' q) :
    Calls Try.prog 88 #[.slice A n c, .slice A' n' c'] w (GvB0 (Py.mulP p q) w) := by
  have hn := hp.len_le
  have hn' := hq.len_le
  have HTP := Lib.hid (Py.trim_length p)
  have HTQ := Lib.hid (Py.trim_length q)
  have htp : Py.tl p ≤ 140737488355328 := by have := Py.tl_le p; rw [hp.1] at this; omega
  have htq : Py.tl q ≤ 140737488355328 := by have := Py.tl_le q; rw [hq.1] at this; omega
  have HP := Lib.hid hp
  have HQ := Lib.hid hq
  clear hp hq
  obtain ⟨a, ha⟩ : ∃ a, a = Py.tl p := ⟨_, rfl⟩
  obtain ⟨b, hb⟩ : ∃ b, b = Py.tl q := ⟨_, rfl⟩
  rw [← ha] at HTP htp
  rw [← hb] at HTQ htq
  clear ha hb
  have HM : Hid (Py.mulP p q = if a = 0 ∨ b = 0 then [] else if 1023 < a - 1 + b - 1 then [] else Py.convK (Py.trim p) (Py.trim q) a) := Lib.hid (by unfold Py.mulP; rw [HTP.out, HTQ.out])
  go_enter Try.func88, Try.ntmps88
  go_wp2_with fail
  refine (trim_any _ _ _ _ _ HP.out).mono ?_
  rintro e w1 ⟨v1, rfl, g1, n1, rfl, h11, h12, h13, h14⟩
  obtain rfl : a = n1 := by rw [← h11, HTP.out]
  have H13 := Lib.hid h13
  have H14 := Lib.hid h14
  have HQ1 := Lib.hid (HQ.out.kept h14)
  clear h11 h13 h14 HQ HP
  go_wp2_with fail
  refine (trim_any _ _ _ _ _ HQ1.out).mono ?_
  rintro e w2 ⟨v2, rfl, g2, n2, rfl, h21, h22, h23, h24⟩
  obtain rfl : b = n2 := by rw [← h21, HTQ.out]
  have H1 := Lib.hid (H13.out.kept h24)
  have H2 := Lib.hid h23
  have HB := Lib.hid (below_then H14.out h24)
  clear h21 h22 h12 h23 h24 H13 H14 HQ1
  by_cases ha0 : a = 0
  · subst ha0
    have HR : Hid (GvB (Py.mulP p q) w (.slice none 0 0) w2) := Lib.hid (by rw [HM.out, if_pos (.inl rfl)]; exact ⟨none, 0, 0, rfl, BS.nil, (fun _ h => by cases h), HB.out⟩)
    go_wp2_with fail
    go_ret2
    exact ⟨_, _, rfl, HR.out⟩
  by_cases hb0 : b = 0
  · subst hb0
    have HR : Hid (GvB (Py.mulP p q) w (.slice none 0 0) w2) := Lib.hid (by rw [HM.out, if_pos (.inr rfl)]; exact ⟨none, 0, 0, rfl, BS.nil, (fun _ h => by cases h), HB.out⟩)
    have q1 : ((a : Int) == 0) = false := by simp; omega
    have HA0 := Lib.hid ha0
    clear ha0
    go_wp2_with fail
    go_ret2
    exact ⟨_, _, rfl, HR.out⟩
  have q1 : ((a : Int) == 0) = false := by simp; omega
  have q2 : ((b : Int) == 0) = false := by simp; omega
  by_cases hbig : 1023 < a - 1 + b - 1
  · have HR : Hid (GvB (Py.mulP p q) w (.slice none 0 0) w2) := Lib.hid (by rw [HM.out, if_neg (by omega), if_pos hbig]; exact ⟨none, 0, 0, rfl, BS.nil, (fun _ h => by cases h), HB.out⟩)
    have q3 : decide ((1023 : Int) < (a : Int) - 1 + (b : Int) - 1) = true := by simp; omega
    have HA0 := Lib.hid ha0
    have HB0 := Lib.hid hb0
    clear ha0 hb0 hbig
    go_wp2_with fail
    go_ret2
    exact ⟨_, _, rfl, HR.out⟩
  have q3 : decide ((1023 : Int) < (a : Int) - 1 + (b : Int) - 1) = false := by simp; omega
  have HR : Hid (Py.mulP p q = Py.convK (Py.trim p) (Py.trim q) a) := Lib.hid (by rw [HM.out, if_neg (by omega), if_neg hbig])
  clear HM
  obtain ⟨m, hm⟩ : ∃ m, m = a + b - 1 := ⟨_, rfl⟩
  have HCL : Hid (∀ k, (Py.convK (Py.trim p) (Py.trim q) k).length = m) := Lib.hid (fun k => by rw [Py.convK_length, HTP.out, HTQ.out]; exact hm.symm)
  have hm1 : a ≤ m := by omega
  have hm2 : m ≤ 2000 := by omega
  have s1 : (a : Int) + (b : Int) - 1 = (m : Int) := by omega
  have hab : a + b = m + 1 := by omega
  have HAB := Lib.hid hab
  have hmk := make_bytes m (by omega)
  have HA0 := Lib.hid ha0
  have HB0 := Lib.hid hb0
  have HBG := Lib.hid hbig
  clear ha0 hb0 hbig hm hab
  go_wp2_with fail
  clear q1 q2 q3 s1 hmk
  go_loopw [38] (fun i wr => ∃ k : Nat, k ≤ a ∧ i = .int .i64 (k : Int) ∧ Hid (OB wr w2.heap.size 5 m (Py.convK (Py.trim p) (Py.trim q) k)) ∧ Hid (Below w2.heap.size w2 wr)) (fun i _ => a - (intOf i).toNat)
  case atStart =>
    refine ⟨0, by omega, rfl, Lib.hid ?_, Lib.hid ((Below.refl _ _).alloc (Nat.le_refl _) _)⟩
    have h0 := HCL.out 0
    rw [Py.convK, HTP.out, HTQ.out] at h0 ⊢
    rw [zeros_length] at h0
    rw [h0]
    have := OB.of_blk (l := zeros m) (Blk.new w2 5 _)
    rw [zeros_length] at this
    exact this
  case round =>
    obtain ⟨k, hk, rfl, h1, h2⟩ := hrel
    by_cases hlt : k < a
    · have c1 : wr.cell? ⟨g1, k, none⟩ = some (B (gB (Py.trim p) k)) := by
        rw [(H1.out.kept h2.out).cell, row_get _ _ (by rw [HTP.out]; exact hlt)]
      have HQ2 : Hid (BS wr (some ⟨g2, 0, none⟩) b b (Py.trim q)) := Lib.hid (BS.of_blk (H2.out.kept h2.out) HTQ.out (by unfold lim; have := HAB.out; omega))
      have hkm : k < m := by omega
      have q1 : (k == m) = false := by simp; omega
      go_wp2_with fail
      refine (addTo_any w2.heap.size k (m - k) (m - k) m _ _ _ b b (Py.trim q) (gB (Py.trim p) k) wr h1.out HQ2.out (by rw [HCL.out]; omega) (by have := HAB.out; omega) (by rw [HCL.out]; unfold lim; omega)).mono ?_
      rintro e w3 ⟨rfl, h31, h32⟩
      have H31 := Lib.hid h31
      have H32 : Hid (Below w2.heap.size w2 w3) := Lib.hid (h2.out.trans (h32.below h2.out.size (fun k e => by rw [e]; exact Nat.le_refl _)))
      clear h31 h32
      go_wp2_with fail
      go_roundw
      case rel => exact ⟨k + 1, by omega, by go_num, H31, H32⟩
      case measure => simp [intOf]; omega
    · obtain rfl : k = a := by omega
      have HG : Hid (GvB (Py.mulP p q) w (.slice (some ⟨w2.heap.size, 0, none⟩) m m) wr) := Lib.hid ⟨_, _, _, rfl, by
        rw [HR.out]
        have h3 := h1.out.bs0 (c := m) (by rw [HCL.out]; exact Nat.le_refl _) (by rw [HCL.out]; unfold lim; omega)
        rw [HCL.out] at h3
        exact h3, (fun a e => by cases e; exact HB.out.size), below_then HB.out h2.out⟩
      go_wp2_with fail
      go_ret2
      exact ⟨_, _, rfl, HG.out⟩
end Go.Proofs.Ytakedococfklgaa
