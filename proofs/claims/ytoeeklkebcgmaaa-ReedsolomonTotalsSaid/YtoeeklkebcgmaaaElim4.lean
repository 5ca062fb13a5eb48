/- Contracts of package matrix: eliminate, Inverse. -/
import Derived.Test.YtoeeklkebcgmaaaElim3
namespace Go.Proofs.Ytoeeklkebcgmaaa
open Go.RowKit Gf

attribute [local go_sem] Gf.xor_bits Gf.and_bits Gf.or_bits Gf.ne_zero_iff Gf.eq_zero_iff Gf.eq_one_iff Gf.beq_bytes Gf.bne_bytes Gf.bv_toNat

/-- The rows of m, each followed by that of right. -/
def jrow (m right : List (List UInt8)) (j : Nat) : List UInt8 := gR m j ++ gR right j
def jmat (m right : List (List UInt8)) (k : Nat) : List (List UInt8) := (List.range k).map (jrow m right)
theorem jmat_length (m right : List (List UInt8)) (k : Nat) : (jmat m right k).length = k := by simp [jmat]
theorem jmat_get (m right : List (List UInt8)) (k j : Nat) (h : j < k) : gR (jmat m right k) j = jrow m right j := by
  rw [gR_eq (by rw [jmat_length]; exact h)]; simp [jmat]
theorem jmat_succ (m right : List (List UInt8)) (k : Nat) : jmat m right (k + 1) = jmat m right k ++ [jrow m right k] := by simp [jmat, List.range_succ]

/-- The rows that eliminate has joined. -/
def Joined (w : World) (ps : List Value) (ge : Nat) (own : Option Nat) (L : Nat) (m right : List (List UInt8)) (k : Nat) : Prop :=
  ps.length = k ∧ ∀ j, j < k → ∃ A c, ps[j]? = some (.slice A L c) ∧ BS w A L c (jrow m right j) ∧ ∀ g o, A = some ⟨g, o, none⟩ → g ≠ ge ∧ own ≠ some g

def ElI (m right : List (List UInt8)) (ge L k : Nat) (w wr : World) : Prop :=
  ∃ AR cR ps, Blk wr ge 100 #[.slice AR k cR, .slice none 0 0, B 1] ∧ wr.ownsRow w.heap.size 22 1 (.slice AR k cR) k ps ∧
    Joined wr ps ge (Value.slice AR k cR).ownBlock L m right k ∧ Below w.heap.size w wr ∧ ge < wr.heap.size

/-- What eliminate returns: the pointer to an elimination whose rows are those of j, reduced in the first n columns. -/
def ElimRet (j : List (List UInt8)) (n : Nat) (w : World) (e : Ending) (w' : World) : Prop :=
  ∃ ge gr cap m np Ap cp pr cs F, e = .returned (.pointer (some ⟨ge, 0, none⟩)) ∧ red j n = (m, np) ∧ Elim w' ge gr n cap (.slice Ap np cp) pr cs m F ∧ Rect m (n + n) ∧ np ≤ n ∧ Below w.heap.size w w'

theorem jrow_length (m right : List (List UInt8)) (n k : Nat) (hm : Rect m n) (hr : Rect right n) (h1 : k < m.length) (h2 : k < right.length) : (jrow m right k).length = n + n := by
  unfold jrow; rw [List.length_append, hm k h1, hr k h2]

theorem ElI_elim {m right : List (List UInt8)} {ge L n : Nat} {w wr : World} (h : ElI m right ge L n w wr) (hn : 0 < n) (_hL : 0 < L) : ∃ gr cap cs, Elim wr ge gr n cap (.slice none 0 0) 1 cs (jmat m right n) [ge] ∧ wr.cell? ⟨ge, 0, none⟩ = some (.slice (some ⟨gr, 0, none⟩) n cap) ∧ w.heap.size ≤ gr := by
  obtain ⟨AR, cR, ps, hblk, hown, hj, hb, hge⟩ := h
  rcases hown.2 with ⟨_, h0⟩ | ⟨gr, cap, cur, e, hbase, hh, hnc, _, hsz, htk⟩
  · omega
  · injection e with e1 _ e3
    subst e1 e3
    have hne : ge ≠ gr := by
      intro e
      subst e
      exact own_ne hown hblk (by decide) rfl
    have hget : ∀ i, i < n → cur[i]? = ps[i]? := fun i hi => by
      rw [← htk, List.getElem?_take]
      rw [if_pos (by omega)]
      simp
    refine ⟨gr, cR, cur, ⟨hblk, ⟨hh, by rw [jmat_length]; omega, fun i hi => ?_⟩, jmat_length _ _ _, hne, by simp, fun b hb' => ?_⟩, by rw [hblk.cell]; rfl, hbase⟩
    · rw [jmat_length] at hi
      obtain ⟨A, c, h1, h2, _⟩ := hj.2 i hi
      exact ⟨A, L, c, (hget i hi).trans h1, by rw [jmat_get _ _ _ _ hi]; exact h2⟩
    · simp only [List.mem_cons, List.not_mem_nil, or_false] at hb'
      subst hb'
      refine ⟨hge, fun i A k c hi hc g o e => ?_⟩
      obtain ⟨A', c', h1, _, h3⟩ := hj.2 i hi
      rw [hget i hi, h1] at hc
      injection hc with hc
      injection hc with a1 _ _
      subst a1
      exact (h3 g o e).1

set_option maxHeartbeats 4000000 in
theorem eliminate_any (A A' : Option Addr) (n c c' : Nat) (m right : List (List UInt8)) (w : World) (h : MS w A n c m) (h' : MS w A' n c' right) (hm : Rect m n) (hr : Rect right n) (hn : 0 < n) (hn64 : n ≤ 64) :
    Calls Try.prog 70 #[.slice A n c, .slice A' n c'] w (ElimRet (jmat m right n) n w) := by
  have HLm := Lib.hid h.1
  have HLr := Lib.hid h'.1
  have hneq := fun (W : World) (a : Option Addr) (n c n' c' : Nat) => run_neq_slice_nil_any (P := Try.prog) W 30 22 a n c n' c' Try.underlying30
  go_enter Try.func70, Try.ntmps70
  go_wp2
  go_loopw [13] (fun i wr => ∃ k : Nat, k ≤ n ∧ i = .int .i64 (k : Int) ∧ ElI m right w.heap.size (n + n) k w wr) (fun i _ => n - (intOf i).toNat)
  case atStart =>
    refine ⟨0, by omega, rfl, none, 0, [], Blk.new _ _ _, World.ownsRow_nil _ _ _ _, ⟨rfl, fun j hj => absurd hj (by omega)⟩, (Below.refl _ _).alloc (Nat.le_refl _) _, by simp⟩
  case round =>
    obtain ⟨k, hk, rfl, AR, cR, ps, hblk, hown, hjn, hb, hge⟩ := hrel
    by_cases hlt : k < n
    · obtain ⟨ga, oa, A1, n1, c1, rfl, hca0, hra⟩ := h.at_ (Below.refl _ _) hlt
      obtain ⟨gb, ob, A2, n2, c2, rfl, hcb0, hrb⟩ := h'.at_ (Below.refl _ _) hlt
      obtain rfl : n1 = n := by rw [← hra.1, hm k (by rw [HLm.out]; exact hlt)]
      obtain rfl : n2 = n1 := by rw [← hrb.1, hr k (by rw [HLr.out]; exact hlt)]
      have hca := cell_kept hb hca0
      have hcb := cell_kept hb hcb0
      have hra1 := hra.kept hb
      have hrb1 := hrb.kept hb
      have HB := Lib.hid hb
      have HOWN := Lib.hid hown
      have HJ := Lib.hid hjn
      have HBLK := Lib.hid hblk
      have HRA := Lib.hid hra1
      have HRB := Lib.hid hrb1
      clear hb hown hjn hblk hra hrb hra1 hrb1 hca0 hcb0
      have HO0 : Hid ((wr.alloc (.cells #[] 5)).ownsRow wr.heap.size 5 1 (.slice (some ⟨wr.heap.size, 0, none⟩) 0 0) 0 (([] : List UInt8).map B)) :=
        Lib.hid (World.ownsRow_lit wr #[] 0 (Nat.le_refl _) (by simp [maxLen]) rfl)
      have HRA0 := Lib.hid (HRA.out.kept (w' := wr.alloc (.cells #[] 5)) ((Below.refl _ _).alloc (Nat.le_refl _) _))
      have ceR : wr.cell? ⟨w.heap.size, 0, none⟩ = some (.slice AR k cR) := by rw [HBLK.out.cell]; rfl
      have feR := HBLK.out.frozen 0
      have hb1' : ∀ (v1 : Value) (w1 : World), AppPost wr.heap.size 5 (.slice (some ⟨wr.heap.size, 0, none⟩) 0 0) 0 n2 (([] ++ gR m k).map B) v1 (wr.alloc (.cells #[] 5)) w1 → Below wr.heap.size wr w1 :=
        fun v1 w1 hp => ((Below.refl _ _).alloc (Nat.le_refl _) _).grown hp.2.1 (by simp) (by simp [Value.ownBlock])
      have HB1' := Lib.hid hb1'
      clear hb1'
      go_wp2_with (first
        | (at_builtin; refine wpList_appB _ rfl (.tmp 18) (.tmp 19) rfl wr.heap.size (.slice (some ⟨wr.heap.size, 0, none⟩) 0 0) 0 [] rfl HO0.out A1 n2 c1 (gR m k) rfl HRA0.out (by omega) (by simp) ?_; intro v1 w1 hp1; have hb1 := HB1'.out v1 w1 hp1; have hcb1 := cell_kept hb1 hcb; have HRB1 := Lib.hid (HRB.out.kept hb1); have HP1 := Lib.hid hp1; clear hp1)
        | (at_builtin; refine wpList_appB _ rfl (.tmp 23) (.tmp 27) rfl wr.heap.size v1 (0 + n2) ([] ++ gR m k) rfl HP1.out.1 A2 n2 c2 (gR right k) rfl HRB1.out (by omega) hb1.size ?_; intro v2 w2 hp2; have hb2 : Below wr.heap.size wr w2 := hb1.grown hp2.2.1 hb1.size (fun q hq => own_base HP1.out.1 q hq); have ceR2 := cell_kept hb2 ceR; have feR2 := (HBLK.out.kept hb2).frozen 0; obtain ⟨A3, c3, rfl, hbs2⟩ := BS.of_own hp2.1 (by unfold lim; omega); rw [Nat.zero_add] at hbs2; have HP2 := Lib.hid hp2; have HBS2 := Lib.hid hbs2; have hbz : Below w2.heap.size w2 (w2.alloc (.cells #[.slice A3 (n2 + n2) c3] 22)) := (Below.refl _ _).alloc (Nat.le_refl _) _; have HBZ := Lib.hid hbz; have HOW2 := Lib.hid (Kp.own (S := fun _ => False) ((Kp.of_below hb2).then hbz) HOWN.out (fun _ _ => id)); clear hp2 hbs2 hbz)
        | (at_builtin; refine wpList_app1 _ rfl (.tmp 33) (.tmp 35) 30 22 (.slice none 0 0) 24 Try.underlying30 infoBytes rfl rfl w.heap.size (.slice AR k cR) k ps rfl HOW2.out w2.heap.size 1 22 (.slice A3 (n2 + n2) c3) rfl (Blk.new w2 _ _) rfl (by omega) (by omega) (Nat.le_trans HB.out.size (Nat.le_trans hb2.size HBZ.out.size)) ?_; intro v4 w4 hp4; obtain ⟨g4, c4, rfl, hgb4⟩ := own_form hp4.1 (by omega); have hK4 : Kp (fun b => (Value.slice AR k cR).ownBlock = some b) (w2.alloc (.cells #[.slice A3 (n2 + n2) c3] 22)) w4 := (Kp.refl _ _).grown hp4.2.1 (fun _ e => .inl e); have bge : (Value.slice AR k cR).ownBlock ≠ some w.heap.size := own_ne HOWN.out HBLK.out (by decide); have HL4 := Lib.hid (hK4.blk ((HBLK.out.kept hb2).kept HBZ.out) bge); have ce4 : w4.cell? ⟨w.heap.size, 0, none⟩ = some (.slice AR k cR) := (HL4.out.cell 0).trans rfl; have fe4 := HL4.out.frozen 0; have HP4 := Lib.hid hp4; have HK4 := Lib.hid hK4; clear hp4 hK4 bge))
      have HR : Hid (ElI m right w.heap.size (n2 + n2) (k + 1) w (w4.setCell ⟨w.heap.size, 0, none⟩ (.slice (some ⟨g4, 0, none⟩) (k + 1) c4))) := by
        refine Lib.hid ⟨some ⟨g4, 0, none⟩, c4, ps ++ [.slice A3 (n2 + n2) c3], HL4.out.set_ 0 _, ?_, ⟨by rw [List.length_append, HJ.out.1]; rfl, fun j hj => ?_⟩, ?_, ?_⟩
        · refine Kp.own (S := fun b => b = w.heap.size) (Kp.set (S := fun b => b = w.heap.size) (p := ⟨w.heap.size, 0, none⟩) (Kp.refl _ _) (.inl rfl) _) HP4.out.1 (fun g hg e => ?_)
          subst e
          exact own_ne HP4.out.1 HL4.out (by decide) hg
        · by_cases hjk : j < k
          · obtain ⟨A, c, h1, h2, h3⟩ := HJ.out.2 j hjk
            have h2' := (h2.kept hb2).kept HBZ.out
            have h4 : BS w4 A (n2 + n2) c (jrow m right j) := ⟨h2.1, h2.2.1, h2.2.2.1, fun i hi => by
              obtain ⟨g, o, e, hc⟩ := h2'.2.2.2 i hi
              exact ⟨g, o, e, HK4.out.cell hc (fun hS => (h3 g o e).2 hS)⟩⟩
            refine ⟨A, c, ?_, h4.store ce4 _, fun g o e => ⟨(h3 g o e).1, fun e4 => ?_⟩⟩
            · rw [List.getElem?_append_left (by rw [HJ.out.1]; exact hjk)]; exact h1
            · have e5 : g4 = g := by simpa [Value.ownBlock] using e4
              subst e5
              rcases HP4.out.2.2 with e6 | e6
              · exact (h3 g4 o e).2 (e6.symm.trans rfl)
              · obtain ⟨g', o', e7, hc⟩ := h2.2.2.2 0 (by omega)
                rw [e] at e7
                injection e7 with e7
                injection e7 with e7
                have hlt2 := cell_lt hc
                have hs := hb2.size
                simp only [Value.ownBlock] at e6
                injection e6 with e6
                simp at e6 hlt2
                omega
          · obtain rfl : j = k := by omega
            have e0 : jrow m right j = [] ++ gR m j ++ gR right j := by simp [jrow]
            have hA3 : ∀ g o, A3 = some ⟨g, o, none⟩ → wr.heap.size ≤ g ∧ g < w2.heap.size := by
              intro g o e
              have := HP2.out.1.lt g (by rw [e]; rfl)
              exact this
            have h4 : BS w4 A3 (n2 + n2) c3 (jrow m right j) := by
              rw [e0]
              have h2' := HBS2.out.kept HBZ.out
              refine ⟨h2'.1, h2'.2.1, h2'.2.2.1, fun i hi => ?_⟩
              obtain ⟨g, o, e, hc⟩ := h2'.2.2.2 i hi
              refine ⟨g, o, e, HK4.out.cell hc (fun hS => ?_)⟩
              have h5 := HOWN.out.lt g hS
              have h6 := hA3 g o e
              omega
            refine ⟨A3, c3, by rw [List.getElem?_append_right (by rw [HJ.out.1]; exact Nat.le_refl _), HJ.out.1, Nat.sub_self]; rfl, h4.store ce4 _, fun g o e => ?_⟩
            have h6 := hA3 g o e
            refine ⟨by omega, fun e4 => ?_⟩
            have e5 : g4 = g := by simpa [Value.ownBlock] using e4
            subst e5
            rcases HP4.out.2.2 with e6 | e6
            · have h5 := HOWN.out.lt g4 (e6.symm.trans rfl)
              omega
            · simp only [Value.ownBlock] at e6
              injection e6 with e6
              simp at e6
              omega
        · refine Below.setCell (B := w.heap.size) (p := ⟨w.heap.size, 0, none⟩) ?_ (Nat.le_refl _) _
          exact (below_thenB (below_thenB HB.out HB.out.size hb2) (Nat.le_trans HB.out.size hb2.size) HBZ.out).grown HP4.out.2.1 (Nat.le_trans HB.out.size (Nat.le_trans hb2.size HBZ.out.size)) (fun b hb' => own_base HOWN.out b hb')
        · rw [World.size_setCell]
          have := HK4.out.size; have := HBZ.out.size; have := hb2.size; omega
      go_roundw
      case rel => exact ⟨k + 1, by omega, by go_num, HR.out⟩
      case measure => simp [intOf]; omega
    · obtain rfl : k = n := by omega
      have hI : ElI m right w.heap.size (k + k) k w wr := ⟨AR, cR, ps, hblk, hown, hjn, hb, hge⟩
      obtain ⟨gr, cap, cs, hE, _, hgr⟩ := ElI_elim hI hn (by omega)
      have hR : Rect (jmat m right k) (k + k) := fun i hi => by
        rw [jmat_length] at hi
        rw [jmat_get _ _ _ _ hi]
        exact jrow_length m right k i hm hr (by rw [HLm.out]; exact hi) (by rw [HLr.out]; exact hi)
      have HC := Lib.hid (ncols_eq hm (by rw [HLm.out]; exact hn))
      have hw := h.kept hb
      have HB := Lib.hid hb
      have HE := Lib.hid hE
      clear hblk hown hjn hb hI hE
      go_wp2_with fail
      refine (columns_any A k c m _ hw).mono ?_
      rintro e w' ⟨rfl, rfl⟩
      rw [HC.out]
      go_wp2_with fail
      refine (reduce_any w.heap.size gr k cap 1 cs (jmat m right k) (k + k) k _ HE.out hR (by omega) (by omega) (by omega)).mono ?_
      rintro e w5 ⟨rfl, m5, np, Ap, cp, pr, cs5, F, hred, hE5, hR5, hnp, hK5⟩
      have HR5 : Hid (ElimRet (jmat m right k) k w (.returned (.pointer (some ⟨w.heap.size, 0, none⟩))) w5) :=
        Lib.hid ⟨w.heap.size, gr, cap, m5, np, Ap, cp, pr, cs5, F, rfl, hred, hE5, hR5, hnp, HB.out.trans (hK5.below HB.out.size (fun b hb' => by rcases hb' with rfl | rfl <;> omega))⟩
      clear hred hE5 hR5 hK5
      go_wp2
      go_ret
      exact HR5.out
end Go.Proofs.Ytoeeklkebcgmaaa
