/- Contract of column.decode. -/
import Derived.Test.YtakedococfklgaaCo1m
import Derived.Test.YtakedococfklgaaPo2m
import Derived.Test.YtakedococfklgaaPo4m
import Derived.Test.YtakedococfklgaaPo6m
import Derived.Test.YtakedococfklgaaPo7m
namespace Go.Proofs.Ytakedococfklgaa
open Go.RowKit Gf

attribute [local go_sem] Gf.xor_bits Gf.and_bits Gf.or_bits Gf.ne_zero_iff Gf.eq_zero_iff Gf.eq_one_iff Gf.beq_bytes Gf.bne_bytes Gf.bv_toNat

/-- Four slices of bytes. -/
def Four (s : List UInt8 × List UInt8 × List UInt8 × List UInt8) (v3 v5 v7 v8 : Value) (w : World) : Prop :=
  ∃ A3 n3 c3 A5 n5 c5 A7 n7 c7 A8 n8 c8, v3 = .slice A3 n3 c3 ∧ v5 = .slice A5 n5 c5 ∧ v7 = .slice A7 n7 c7 ∧ v8 = .slice A8 n8 c8 ∧ BS w A3 n3 c3 s.1 ∧ BS w A5 n5 c5 s.2.1 ∧ BS w A7 n7 c7 s.2.2.1 ∧ BS w A8 n8 c8 s.2.2.2

def lenV : Value → Nat | .slice _ n _ => n | _ => 0

set_option maxRecDepth 100000 in
set_option maxHeartbeats 2000000 in
theorem decode_any (gc : Nat) (A A' : Option Addr) (n c c' t : Nat) (xs ys : List UInt8) (w : World) (h : Col w gc A A' n c c' t xs ys) (hn : n ≤ 1000) (ht : t ≤ 1000) (hd : Py.Dst xs) :
    Calls Try.prog 68 #[.pointer (some ⟨gc, 0, none⟩)] w (Rets (GvB (Py.dcP xs ys t)) w) := by
  have hc0 := h.c0
  have H := Lib.hid h
  have HLX := Lib.hid h.b0.1
  have HD := Lib.hid hd
  have hn2 : n ≤ 140737488355328 := by omega
  have HN := Lib.hid hn
  have HT := Lib.hid ht
  clear h hd hn ht
  go_enter Try.func68, Try.ntmps68
  go_wp2_with fail
  refine (fromRoots_any A n c xs w H.out.b0 (by have := HN.out; omega)).mono ?_
  rintro e w1 ⟨v1, r1, rfl, A3, n3, c3, rfl, h11, h12⟩
  have H11 := Lib.hid h11
  have H12 := Lib.hid h12
  have H1 := Lib.hid (H.out.kept h12)
  have d0 := H1.out.c0
  have d1 := H1.out.c1
  clear h11 h12 hc0
  go_wp2_with fail
  refine Text.wp_region_text (fun _ => True) [(0, 4), (1, 4), (2, 4), (4, 4), (5, 4), (6, 4), (3, 1), (7, 1), (8, 2), (9, 4), (10, 4), (11, 4), (12, 4), (13, 4)] (by kernel_rfl) (by kernel_rfl) (fun _ _ _ _ _ h => h) (trivial) ?_
  iterate 6 (refine Text.purek rfl rfl (fun K hK => ⟨_, fun w' => by go_simp <;> rfl, ?_⟩); go_simp; refine hK _ ?_; clear hK K)
  iterate 2 (refine Text.readk rfl rfl (fun K hK => ⟨_, by go_simp <;> rfl, ?_⟩); go_simp; refine hK _ ?_; clear hK K)
  refine Text.eff rfl rfl (fun K hK => ?_)
  go_simp
  refine (interp_any A A' n c c' xs ys w1.drew H1.out.b0.drew H1.out.b1.drew (by have := HN.out; omega) HD.out).mono ?_
  rintro e w2 ⟨v2, r2, rfl, A5, n5, c5, rfl, h21, h22, h23⟩
  refine hK _ _ trivial ?_
  have h23' : Below w1.heap.size w1 w2 := below_ofDrew h23
  have H21 := Lib.hid h21
  have H22 := Lib.hid (H11.out.kept h23')
  have HB2 := Lib.hid (below_then H12.out h23')
  clear hK K h21 h22 h23 h23' d0 d1 H1 H11 H12
  iterate 5 (refine Text.purek rfl rfl (fun K hK => ⟨_, fun w' => by go_simp <;> rfl, ?_⟩); go_simp; refine hK _ ?_; clear hK K)
  refine Text.done ?_
  go_wp2_with fail
  have hbA : Below w2.heap.size w2 (w2.alloc (.cells #[.int .u8 1] 5)) := (Below.refl _ _).alloc (Nat.le_refl _) _
  have HF : Hid (Four (Py.frP xs, Py.itP xs ys, [], [1]) (.slice A3 n3 c3) (.slice A5 n5 c5) (.slice none 0 0) (.slice (some ⟨w2.heap.size, 0, none⟩) 1 1) (w2.alloc (.cells #[.int .u8 1] 5))) := Lib.hid ⟨_, _, _, _, _, _, _, _, _, _, _, _, rfl, rfl, rfl, rfl, H22.out.kept hbA, H21.out.kept hbA, BS.nil, BS.of_blk (l := [1]) (Blk.new w2 5 _) rfl (by decide)⟩
  have HBA := Lib.hid (below_then HB2.out hbA)
  clear hbA H21 H22 HB2
  go_loopw [3, 5, 7, 8] (fun v3 v5 v7 v8 wr => ∃ s, Hid (Four s v3 v5 v7 v8 wr) ∧ Hid (Py.dcA (n + t) s = Py.dcA (n + t) (Py.frP xs, Py.itP xs ys, [], [1])) ∧ Hid (Below w.heap.size w wr)) (fun _ v5 _ _ _ => lenV v5)
  case atStart => exact ⟨_, HF, Lib.hid rfl, HBA⟩
  case round =>
    obtain ⟨s, hf, hs, hb⟩ := hrel
    obtain ⟨A3, n3, c3, A5, n5, c5, A7, n7, c7, A8, n8, c8, rfl, rfl, rfl, rfl, b3, b5, b7, b8⟩ := hf.out
    have HB3 := Lib.hid b3
    have HB5 := Lib.hid b5
    have HB7 := Lib.hid b7
    have HB8 := Lib.hid b8
    have hm5 := b5.len_le
    have htl : Py.tl s.2.1 ≤ n5 := by have := Py.tl_le s.2.1; rw [b5.1] at this; exact this
    have hcw := H.out.kept hb.out
    have d0 := hcw.c0
    have d2 := hcw.c2
    obtain ⟨m, hm⟩ : ∃ m, m = Py.tl s.2.1 := ⟨_, rfl⟩
    rw [← hm] at htl
    have HM := Lib.hid hm
    have HNT : Hid ((n : Int) + (t : Int) ≤ 2000) := Lib.hid (by have := HN.out; have := HT.out; omega)
    have hnt := HNT.out
    have hm47 : (m : Int) ≤ 140737488355328 := by omega
    have ht0 : (0 : Int) ≤ (t : Int) := by omega
    have ht1 : (t : Int) ≤ 1000 := by have := HT.out; omega
    have HDG := Lib.hid (fun (W : World) (hW : BS W A5 n5 c5 s.2.1) => (show Calls Try.prog 86 #[.slice A5 n5 c5] W fun e w' => e = .returned (.int .i64 ((m : Int) - 1)) ∧ W = w' by rw [hm]; exact degree_any A5 n5 c5 s.2.1 W hW))
    clear b3 b5 b7 b8 hf hcw hm
    by_cases hgo : n + t + 2 ≤ 2 * m
    · have q : decide ((n : Int) + (t : Int) ≤ 2 * ((m : Int) - 1)) = true := by simp; omega
      go_wp2_with fail
      go_quiet ((go_at_call 86; exact quiet_left (HDG.out _ (HB5.out.drewN _))))
      obtain ⟨wd, hwd⟩ : ∃ wd : World, wd = wr.drewN nq := ⟨_, rfl⟩
      have D3 : Hid (BS wd A3 n3 c3 s.1) := Lib.hid (by rw [hwd]; exact HB3.out.drewN _)
      have D5 : Hid (BS wd A5 n5 c5 s.2.1) := Lib.hid (by rw [hwd]; exact HB5.out.drewN _)
      have D7 : Hid (BS wd A7 n7 c7 s.2.2.1) := Lib.hid (by rw [hwd]; exact HB7.out.drewN _)
      have D8 : Hid (BS wd A8 n8 c8 s.2.2.2) := Lib.hid (by rw [hwd]; exact HB8.out.drewN _)
      have DB : Hid (Below w.heap.size w wd) := Lib.hid (by rw [hwd]; exact below_drewN hb.out _)
      rw [← hwd]
      have HLT : Hid ((Py.divP s.1 s.2.1).2.length < m) := Lib.hid (by have := Py.divP_lt s.1 s.2.1 (by rw [← HM.out]; omega); rw [← HM.out] at this; exact this)
      have HSG : Hid (Py.dcA (n + t) (Py.dcS s) = Py.dcA (n + t) (Py.frP xs, Py.itP xs ys, [], [1])) := Lib.hid (by rw [← Py.dcA_go (n + t) s (by rw [← HM.out]; omega)]; exact hs.out)
      clear hwd HB3 HB5 HB7 HB8 hb HDG d0 d2 q hs
      go_wp2_with fail
      refine (divmod_any A3 A5 n3 c3 n5 c5 _ _ wd D3.out D5.out).mono ?_
      rintro e w4 ⟨Aq, nq', cq, Ar, nr, cr, rr, rfl, h41, h42, h43, h44, h45⟩
      have H41 := Lib.hid h41
      have H42 := Lib.hid h42
      have E5 := Lib.hid (D5.out.kept h45)
      have E7 := Lib.hid (D7.out.kept h45)
      have E8 := Lib.hid (D8.out.kept h45)
      have EB := Lib.hid (below_then DB.out h45)
      clear h41 h42 h43 h44 h45 D3 D5 D7 D8 DB
      go_wp2_with fail
      refine (pmul_any Aq A8 nq' cq n8 c8 _ _ w4 H41.out E8.out).mono ?_
      rintro e w5 ⟨vp, rp, rfl, Ap, np, cp, rfl, h51, h52, h53⟩
      have H51 := Lib.hid h51
      have F5 := Lib.hid (E5.out.kept h53)
      have F7 := Lib.hid (E7.out.kept h53)
      have F8 := Lib.hid (E8.out.kept h53)
      have FR := Lib.hid (H42.out.kept h53)
      have FB := Lib.hid (below_then EB.out h53)
      clear h51 h52 h53 E5 E7 E8 EB H41 H42
      go_wp2_with fail
      refine (add_any A7 Ap n7 c7 np cp _ _ w5 F7.out H51.out).mono ?_
      rintro e w6 ⟨va, rfl, ga, na, rfl, h61, h62, h63, h64⟩
      have H6 : Hid (Four (Py.dcS s) (.slice A5 n5 c5) (.slice Ar nr cr) (.slice A8 n8 c8) (.slice (some ⟨ga, 0, none⟩) na na) w6) := Lib.hid ⟨_, _, _, _, _, _, _, _, _, _, _, _, rfl, rfl, rfl, rfl, F5.out.kept h64, FR.out.kept h64, F8.out.kept h64, BS.of_blk h63 h61 (by
        have h1 := Py.tl_le (Py.xorL s.2.2.1 (Py.mulP (Py.divP s.1 s.2.1).1 s.2.2.2))
        have h2 := Py.trim_length (Py.xorL s.2.2.1 (Py.mulP (Py.divP s.1 s.2.1).1 s.2.2.2))
        have h3 : (Py.xorL s.2.2.1 (Py.mulP (Py.divP s.1 s.2.1).1 s.2.2.2)).length = max n7 np := by rw [Py.xorL, tab_length, F7.out.1, H51.out.1]
        have h4 := F7.out.2.2.1
        have h5 := H51.out.2.2.1
        have h6 : (Py.addP s.2.2.1 (Py.mulP (Py.divP s.1 s.2.1).1 s.2.2.2)).length = na := h61
        unfold Py.addP at h6
        omega)⟩
      have HNR : Hid (nr < n5) := Lib.hid (by have h1 := FR.out.1; have h2 := HLT.out; omega)
      have HB6 := Lib.hid (below_then FB.out h64)
      clear h61 h62 h63 h64
      go_wp2_with fail
      go_roundw
      case rel => exact ⟨_, H6, HSG, HB6⟩
      case measure => exact HNR.out
    · have q : decide ((n : Int) + (t : Int) ≤ 2 * ((m : Int) - 1)) = false := by simp; omega
      go_wp2_with fail
      go_quiet ((go_at_call 86; exact quiet_left (HDG.out _ (HB5.out.drewN _))))
      obtain ⟨wd, hwd⟩ : ∃ wd : World, wd = wr.drewN nq := ⟨_, rfl⟩
      have D5 : Hid (BS wd A5 n5 c5 s.2.1) := Lib.hid (by rw [hwd]; exact HB5.out.drewN _)
      have D8 : Hid (BS wd A8 n8 c8 s.2.2.2) := Lib.hid (by rw [hwd]; exact HB8.out.drewN _)
      have DB : Hid (Below w.heap.size w wd) := Lib.hid (by rw [hwd]; exact below_drewN hb.out _)
      rw [← hwd]
      have HSG : Hid ((Py.divP s.2.1 s.2.2.2).1 = Py.dcP xs ys t) := Lib.hid (by
        unfold Py.dcP
        rw [HLX.out, ← hs.out, Py.dcA_end (n + t) s (by rw [← HM.out]; omega)])
      clear hwd HB3 HB5 HB7 HB8 hb HDG d0 d2 q hs
      go_wp2_with fail
      refine (divmod_any A5 A8 n5 c5 n8 c8 _ _ wd D5.out D8.out).mono ?_
      rintro e w4 ⟨Aq, nq', cq, Ar, nr, cr, rr, rfl, h41, h42, h43, h44, h45⟩
      rw [HSG.out] at h41
      have HG : Hid (GvB (Py.dcP xs ys t) w (.slice Aq nq' cq) w4) := Lib.hid ⟨_, _, _, rfl, h41, (fun a e => Nat.le_trans DB.out.size (h43 a e)), below_then DB.out h45⟩
      clear h41 h42 h43 h44 h45
      go_wp2_with fail
      go_ret
      exact ⟨_, rfl, HG.out⟩
end Go.Proofs.Ytakedococfklgaa
