/- Contracts of package matrix: reduce. -/
import Derived.Test.YtoeeklkebcgmaaaElim2
namespace Go.Proofs.Ytoeeklkebcgmaaa
open Go.RowKit Gf

attribute [local go_sem] Gf.xor_bits Gf.and_bits Gf.or_bits Gf.ne_zero_iff Gf.eq_zero_iff Gf.eq_one_iff Gf.beq_bytes Gf.bne_bytes Gf.bv_toNat

/-- Rows i and j exchanged. -/
def swp (m : List (List UInt8)) (i j : Nat) : List (List UInt8) := (m.set i (gR m j)).set j (gR m i)
theorem swp_length (m : List (List UInt8)) (i j : Nat) : (swp m i j).length = m.length := by simp [swp]
theorem swp_get (m : List (List UInt8)) (i j k : Nat) (hi : i < m.length) (hj : j < m.length) (hk : k < m.length) : gR (swp m i j) k = gR m (if k = j then i else if k = i then j else k) := by
  unfold swp
  by_cases e : k = j
  · subst e; rw [gR_set_self (by simpa using hk), if_pos rfl]
  · rw [gR_set_ne (Ne.symm e), if_neg e]
    by_cases e2 : k = i
    · subst e2; rw [gR_set_self hk, if_pos rfl]
    · rw [gR_set_ne (Ne.symm e2), if_neg e2]
theorem swp_rect (m : List (List UInt8)) (L i j : Nat) (hr : Rect m L) (hi : i < m.length) (hj : j < m.length) : Rect (swp m i j) L := by
  intro k hk
  rw [swp_length] at hk
  rw [swp_get m i j k hi hj hk]
  apply hr
  by_cases e : k = j
  · rw [if_pos e]; exact hi
  · rw [if_neg e]; by_cases e2 : k = i
    · rw [if_pos e2]; exact hj
    · rw [if_neg e2]; exact hk

/-- One column of reduce: the rows, and how many pivots there are. -/
def redS (m : List (List UInt8)) (np col : Nat) : List (List UInt8) × Nat :=
  match pvF m np col with
  | some f => (clr (swp m np f) np col m.length, np + 1)
  | none => (m, np)
def red (m : List (List UInt8)) : Nat → List (List UInt8) × Nat
  | 0 => (m, 0)
  | k + 1 => redS (red m k).1 (red m k).2 k

theorem Elim.drew {w : World} {ge gr n cap : Nat} {pv : Value} {pr : UInt8} {cs : Array Value} {m : List (List UInt8)} {F : List Nat} (h : Elim w ge gr n cap pv pr cs m F) : Elim w.drew ge gr n cap pv pr cs m F := h
theorem Kp.ofDrew {S : Nat → Prop} {w w' : World} (h : Kp S w.drew w') : Kp S w w' := ⟨h.os, h.tape, h.output, h.size, h.block⟩
theorem redS_none {m : List (List UInt8)} {np col : Nat} (h : pvF m np col = none) : redS m np col = (m, np) := by unfold redS; rw [h]
theorem redS_some {m : List (List UInt8)} {np col f : Nat} (h : pvF m np col = some f) : redS m np col = (clr (swp m np f) np col m.length, np + 1) := by unfold redS; rw [h]

theorem own_form {w : World} {base : Nat} {e : TypeId} {n : Nat} {v : Value} {xs : List Value} (h : w.ownsRow base e 1 v n xs) (hn : 0 < n) : ∃ g cap, v = .slice (some ⟨g, 0, none⟩) n cap ∧ base ≤ g := by
  rcases h.2 with ⟨_, rfl⟩ | ⟨g, cap, cur, rfl, hb, _⟩
  · omega
  · exact ⟨g, cap, rfl, hb⟩

def RedI (ge gr n cap L : Nat) (m0 : List (List UInt8)) (gx B0 k : Nat) (w wr : World) : Prop :=
  ∃ m np Ap cp pr cs piv, red m0 k = (m, np) ∧ Elim wr ge gr n cap (.slice Ap np cp) pr cs m (ge :: (Value.slice Ap np cp).ownBlock.toList) ∧ Rect m L ∧ np ≤ n ∧ wr.ownsRow B0 3 1 (.slice Ap np cp) np piv ∧
    Blk wr gx 96 #[.pointer (some ⟨ge, 0, none⟩)] ∧ Kp (fun k => k = gr ∨ k = ge) w wr ∧ B0 < wr.heap.size

def RedPost (ge gr n cap L : Nat) (m0 : List (List UInt8)) (k : Nat) (w w' : World) : Prop :=
  ∃ m np Ap cp pr cs F, red m0 k = (m, np) ∧ Elim w' ge gr n cap (.slice Ap np cp) pr cs m F ∧ Rect m L ∧ np ≤ n ∧ Kp (fun k => k = gr ∨ k = ge) w w'

theorem HKP13 {S : Nat → Prop} {w w1 w2 : World} (h : Below w.heap.size w w1) (k : Kp S w1 w2) : Kp S w w2 := (Kp.of_below h).trans k
theorem kp_gr {ge gr : Nat} {w w' : World} (h : Kp (· = gr) w w') : Kp (fun k => k = gr ∨ k = ge) w w' := h.mono (fun _ _ e => .inl e)

set_option maxHeartbeats 4000000 in
theorem reduce_any (ge gr n cap : Nat) (pr : UInt8) (cs : Array Value) (m0 : List (List UInt8)) (L cols : Nat) (w : World) (h : Elim w ge gr n cap (.slice none 0 0) pr cs m0 [ge]) (hL : Rect m0 L) (hLl : L ≤ 140737488355328) (hn : n ≤ 1000) (hcols : cols ≤ L) :
    Calls Try.prog 84 #[.pointer (some ⟨ge, 0, none⟩), .int .i64 (cols : Int)] w fun e w' => e = .returned (.tuple #[]) ∧ RedPost ge gr n cap L m0 cols w w' := by
  have hmf : ∀ (fn : Fn) (first cap : Array Value) (w : World), (Instr.makeFunc fn first cap).run Try.prog w = .ok (.func fn first cap) w := fun _ _ _ _ => rfl
  have hge := h.1.lt
  have hgr := h.2.1.1.lt
  have HE0 := Lib.hid h
  clear h
  go_enter Try.func84, Try.ntmps84
  go_wp2
  go_step3
  go_wp2
  go_step3
  go_wp2
  go_loopw [9] (fun i wr => ∃ k : Nat, k ≤ cols ∧ i = .int .i64 (k : Int) ∧ RedI ge gr n cap L m0 w.heap.size w.heap.size k w wr) (fun i _ => cols - (intOf i).toNat)
  case atStart =>
    refine ⟨0, by omega, rfl, m0, 0, none, 0, pr, cs, [], rfl, HE0.out.kept ((Below.refl _ _).alloc (Nat.le_refl _) _), hL, by omega, World.ownsRow_nil _ _ _ _, Blk.new _ _ _, (Kp.refl _ _).alloc _, by simp⟩
  case round =>
    obtain ⟨k, hk, rfl, m, np, Ap, cp, pr1, cs1, piv, hred, hE, hR, hnp, hown, hbx, hkp, hsz⟩ := hrel
    by_cases hlt : k < cols
    · have cx := hbx.cell 0
      have cp1 := hE.pivCell
      have hge1 := hE.1.lt
      have hbel : Below wr.heap.size wr ((wr.alloc (.cells #[.int .i64 (k : Int)] 3)).alloc (.cells #[.int .i64 (np : Int)] 3)) :=
        ((Below.refl _ _).alloc (Nat.le_refl _) _).alloc (by simp) _
      have HBEL := Lib.hid hbel
      have HE := Lib.hid hE
      have HOWN := Lib.hid hown
      have HBX := Lib.hid hbx
      have HKP := Lib.hid hkp
      have HRED := Lib.hid hred
      have hcx : wr.cell? ⟨w.heap.size, 0, none⟩ = some (.pointer (some ⟨ge, 0, none⟩)) := cx
      clear hE hown hbx hkp hred cx hbel
      go_wp2_with fail
      have ctt : ((wr.alloc (.cells #[.int .i64 (k : Int)] 3)).alloc (.cells #[.int .i64 (np : Int)] 3)).cell? ⟨wr.heap.size + 1, 0, none⟩ = some (.int .i64 (np : Int)) := by
        rw [World.cell?_alloc_at _ _ _ _ (by simp)]; rfl
      have ccc : ((wr.alloc (.cells #[.int .i64 (k : Int)] 3)).alloc (.cells #[.int .i64 (np : Int)] 3)).cell? ⟨wr.heap.size, 0, none⟩ = some (.int .i64 (k : Int)) := by
        rw [World.cell?_alloc_past _ _ _ (by simp), World.cell?_alloc_at _ _ _ _ rfl]; rfl
      refine (find_any (wr.heap.size + 1) w.heap.size wr.heap.size ge gr n cap _ pr1 cs1 m _ L np k _ (HE.out.kept HBEL.out) hR (by omega) hnp (by omega) ctt (cell_kept HBEL.out hcx) ccc).mono ?_
      rintro e w3 ⟨rfl, q, hw3⟩
      have hb3 : Below wr.heap.size wr w3 := by rw [hw3]; exact below_drewN HBEL.out q
      have ct3 : w3.cell? ⟨wr.heap.size + 1, 0, none⟩ = some (.int .i64 (np : Int)) := by rw [hw3]; exact ctt
      have cc3 : w3.cell? ⟨wr.heap.size, 0, none⟩ = some (.int .i64 (k : Int)) := by rw [hw3]; exact ccc
      have hs3 : w3.heap.size = wr.heap.size + 2 := by rw [hw3, size_drewN]; simp
      have HS3 := Lib.hid hs3
      have HB3 := Lib.hid hb3
      clear hw3 ctt ccc hs3 hb3
      cases hpv : pvF m np k with
      | none =>
        have HR2 : Hid (RedI ge gr n cap L m0 w.heap.size w.heap.size (k + 1) w w3) := by
          refine Lib.hid ⟨m, np, Ap, cp, pr1, cs1, piv, ?_, HE.out.kept HB3.out, hR, hnp, ?_, HBX.out.kept HB3.out, HKP.out.then HB3.out, by rw [HS3.out]; omega⟩
          · show redS (red m0 k).1 (red m0 k).2 k = _
            rw [HRED.out]; exact redS_none hpv
          · exact HOWN.out.kept ⟨HB3.out.os, HB3.out.tape, HB3.out.output, HB3.out.size, fun i hi _ => HB3.out.block i hi⟩ (row := none) (by cases Ap <;> simp [Value.ownBlock])
        simp only [pvI]
        clear hpv hcx ct3 cc3 cp1
        go_wp2
        go_roundw
        case rel => exact ⟨k + 1, by omega, by go_num, HR2.out⟩
        case measure => simp [intOf]; omega
      | some f =>
        obtain ⟨hf1, hf2, hf3⟩ := pvF_spec hpv
        rw [HE.out.2.2.1] at hf2
        simp only [pvI]
        have HPV := Lib.hid hpv
        have HF3 := Lib.hid hf3
        have HE3 := Lib.hid (HE.out.kept HB3.out)
        have hnp2 : np < n := by omega
        obtain ⟨AF, cF, hcF, hrF⟩ := HE3.out.row hR hf2
        obtain ⟨AT, cT, hcT, hrT⟩ := HE3.out.row hR hnp2
        have HRF := Lib.hid hrF
        have HRT := Lib.hid hrT
        have ce3 := HE3.out.rowsCell
        have cx3 := cell_kept HB3.out hcx
        have fT := HE3.out.2.1.1.frozen np
        have fF := HE3.out.2.1.1.frozen f
        have q0 : ¬ ((f : Int) < 0) := by omega
        clear hpv hf3 hrF hrT cp1 hcx
        go_wp2
        refine Text.wp_region_text (fun _ => True) [(9, 4), (14, 4), (0, 1), (1, 4), (2, 4), (3, 1), (4, 1), (5, 1), (6, 4), (7, 4), (8, 1), (10, 1), (11, 4), (12, 4), (13, 1), (15, 4), (16, 1), (17, 1), (18, 4), (19, 4), (20, 1), (21, 1), (22, 4), (23, 1), (24, 4), (25, 2), (26, 4), (27, 2)] (by kernel_rfl) (by kernel_rfl) (fun _ _ _ _ _ h => h) (trivial) ?_
        iterate 2 (refine Text.purek rfl rfl (fun K hK => ⟨_, fun w' => by go_simp <;> rfl, ?_⟩); go_simp; refine hK _ ?_; clear hK K)
        (refine Text.readk rfl rfl (fun K hK => ⟨_, by go_simp <;> rfl, ?_⟩); go_simp; refine hK _ ?_; clear hK K)
        iterate 2 (refine Text.purek rfl rfl (fun K hK => ⟨_, fun w' => by go_simp <;> rfl, ?_⟩); go_simp; refine hK _ ?_; clear hK K)
        iterate 3 (refine Text.readk rfl rfl (fun K hK => ⟨_, by go_simp <;> rfl, ?_⟩); go_simp; refine hK _ ?_; clear hK K)
        iterate 2 (refine Text.purek rfl rfl (fun K hK => ⟨_, fun w' => by go_simp <;> rfl, ?_⟩); go_simp; refine hK _ ?_; clear hK K)
        iterate 2 (refine Text.readk rfl rfl (fun K hK => ⟨_, by go_simp <;> rfl, ?_⟩); go_simp; refine hK _ ?_; clear hK K)
        iterate 2 (refine Text.purek rfl rfl (fun K hK => ⟨_, fun w' => by go_simp <;> rfl, ?_⟩); go_simp; refine hK _ ?_; clear hK K)
        (refine Text.readk rfl rfl (fun K hK => ⟨_, by go_simp <;> rfl, ?_⟩); go_simp; refine hK _ ?_; clear hK K)
        (refine Text.purek rfl rfl (fun K hK => ⟨_, fun w' => by go_simp <;> rfl, ?_⟩); go_simp; refine hK _ ?_; clear hK K)
        iterate 2 (refine Text.readk rfl rfl (fun K hK => ⟨_, by go_simp <;> rfl, ?_⟩); go_simp; refine hK _ ?_; clear hK K)
        iterate 2 (refine Text.purek rfl rfl (fun K hK => ⟨_, fun w' => by go_simp <;> rfl, ?_⟩); go_simp; refine hK _ ?_; clear hK K)
        iterate 2 (refine Text.readk rfl rfl (fun K hK => ⟨_, by go_simp <;> rfl, ?_⟩); go_simp; refine hK _ ?_; clear hK K)
        (refine Text.purek rfl rfl (fun K hK => ⟨_, fun w' => by go_simp <;> rfl, ?_⟩); go_simp; refine hK _ ?_; clear hK K)
        (refine Text.readk rfl rfl (fun K hK => ⟨_, by go_simp <;> rfl, ?_⟩); go_simp; refine hK _ ?_; clear hK K)
        (refine Text.purek rfl rfl (fun K hK => ⟨_, fun w' => by go_simp <;> rfl, ?_⟩); go_simp; refine hK _ ?_; clear hK K)
        refine Text.eff rfl rfl (fun K hK => ?_)
        go_simp
        obtain ⟨w9, hw9⟩ : ∃ w9, w9 = w3.setCell ⟨gr, np, none⟩ (.slice AF L cF) := ⟨_, rfl⟩
        have hcsF : cs1[f]? = some (.slice AF L cF) := by rw [← HE3.out.2.1.1.cell]; exact hcF
        have hcsT : cs1[np]? = some (.slice AT L cT) := by rw [← HE3.out.2.1.1.cell]; exact hcT
        have HE9 := Lib.hid (HE3.out.setRow hnp2 HRF.out (fun g o e hF => (HE3.out.2.2.2.2.2 g hF).2 f AF L cF hf2 hcsF g o e rfl))
        have HRT9 := Lib.hid (HRT.out.store hcT (.slice AF L cF))
        have HK9 : Hid (Kp (fun k => k = gr ∨ k = ge) w3 w9) := by rw [hw9]; exact Lib.hid (Kp.set (p := ⟨gr, np, none⟩) (Kp.refl _ _) (.inl (.inl rfl)) _)
        rw [← hw9] at HE9 HRT9 ⊢
        obtain ⟨A8, n8, c8, hc8, _⟩ := HE9.out.2.1.cell (i := f) (by rw [HE9.out.2.2.1]; exact hf2)
        have f8 := HE9.out.2.1.1.frozen f
        refine hK _ _ trivial ?_
        clear hK K hw9 hcF hcT fT fF
        (refine Text.purek rfl rfl (fun K hK => ⟨_, fun w' => by go_simp <;> rfl, ?_⟩); go_simp; refine hK _ ?_; clear hK K)
        refine Text.eff rfl rfl (fun K hK => ?_)
        go_simp
        obtain ⟨w10, hw10⟩ : ∃ w10, w10 = w9.setCell ⟨gr, f, none⟩ (.slice AT L cT) := ⟨_, rfl⟩
        have HE10 := Lib.hid (HE9.out.setRow hf2 HRT9.out (fun g o e hF => (HE3.out.2.2.2.2.2 g hF).2 np AT L cT hnp2 hcsT g o e rfl))
        have HK10 : Hid (Kp (fun k => k = gr ∨ k = ge) w3 w10) := by rw [hw10]; exact Lib.hid (Kp.set (p := ⟨gr, f, none⟩) HK9.out (.inl (.inl rfl)) _)
        rw [← hw10] at HE10 ⊢
        refine hK _ _ trivial ?_
        clear hK K hw10 hc8 f8 HE9 HRT9 HK9 hcsF hcsT ce3
        refine Text.done ?_
        have hml : m.length = n := HE.out.2.2.1
        have HML := Lib.hid hml
        have hR10 : Rect (swp m np f) L := swp_rect m L np f hR (by rw [hml]; exact hnp2) (by rw [hml]; exact hf2)
        have hg10 : gR (swp m np f) np = gR m f := by
          rw [swp_get m np f np (by rw [hml]; exact hnp2) (by rw [hml]; exact hf2) (by rw [hml]; exact hnp2)]
          by_cases e : np = f
          · rw [if_pos e, e]
          · rw [if_neg e, if_pos rfl]
        have HG10 : Hid (gB (gR (swp m np f) np) k ≠ 0) := by rw [hg10]; exact HF3
        have HE10' : Hid (Elim w10 ge gr n cap (.slice Ap np cp) pr1 _ (swp m np f) _) := HE10
        obtain ⟨AP, cP, hcP, hrP⟩ := HE10'.out.row hR10 hnp2
        obtain ⟨gp, op, rfl, hbP⟩ := hrP.at_ (Below.refl _ _) (show k < L by omega)
        have hkL : k < L := by omega
        have hgr1 := HE.out.2.1.1.lt
        have n1 : ¬ (wr.heap.size + 1 = gr ∨ wr.heap.size + 1 = ge) := by omega
        have n2 : ¬ (wr.heap.size = gr ∨ wr.heap.size = ge) := by omega
        have n3 : ¬ (w.heap.size = gr ∨ w.heap.size = ge) := by omega
        have ct10 := HK10.out.cell ct3 n1
        have cc10 := HK10.out.cell cc3 n2
        have cx10 := HK10.out.cell cx3 n3
        have ce10 := HE10'.out.rowsCell
        have cr10 := HE10'.out.prodCell
        have fr10 := HE10'.out.1.frozen 2
        clear hml hg10 hrP ct3 cc3 cx3
        go_wp2
        refine Text.wp_region_text (fun w' => w'.cell? ⟨w.heap.size, 0, none⟩ = some (.pointer (some ⟨ge, 0, none⟩))) [(0, 0), (1, 1), (2, 4), (3, 4), (4, 1), (5, 1), (6, 4), (7, 4), (8, 1), (9, 1), (10, 4), (11, 1), (12, 1), (13, 4), (14, 1), (15, 1), (16, 4), (17, 4), (18, 2)] (by kernel_rfl) (by kernel_rfl) (fun _ _ _ _ _ h => h) (cx10) ?_
        (refine Text.heldk rfl rfl (fun K hK => ⟨_, fun w' hw' => by go_simp <;> rfl, ?_⟩); go_simp; refine hK _ ?_; clear hK K)
        (refine Text.readk rfl rfl (fun K hK => ⟨_, by go_simp <;> rfl, ?_⟩); go_simp; refine hK _ ?_; clear hK K)
        iterate 2 (refine Text.purek rfl rfl (fun K hK => ⟨_, fun w' => by go_simp <;> rfl, ?_⟩); go_simp; refine hK _ ?_; clear hK K)
        iterate 2 (refine Text.readk rfl rfl (fun K hK => ⟨_, by go_simp <;> rfl, ?_⟩); go_simp; refine hK _ ?_; clear hK K)
        iterate 2 (refine Text.purek rfl rfl (fun K hK => ⟨_, fun w' => by go_simp <;> rfl, ?_⟩); go_simp; refine hK _ ?_; clear hK K)
        iterate 2 (refine Text.readk rfl rfl (fun K hK => ⟨_, by go_simp <;> rfl, ?_⟩); go_simp; refine hK _ ?_; clear hK K)
        (refine Text.purek rfl rfl (fun K hK => ⟨_, fun w' => by go_simp <;> rfl, ?_⟩); go_simp; refine hK _ ?_; clear hK K)
        iterate 2 (refine Text.readk rfl rfl (fun K hK => ⟨_, by go_simp <;> rfl, ?_⟩); go_simp; refine hK _ ?_; clear hK K)
        (refine Text.purek rfl rfl (fun K hK => ⟨_, fun w' => by go_simp <;> rfl, ?_⟩); go_simp; refine hK _ ?_; clear hK K)
        (refine Text.readk rfl rfl (fun K hK => ⟨_, by go_simp <;> rfl, ?_⟩); go_simp; refine hK _ ?_; clear hK K)
        refine Text.quietk rfl rfl (fun K hK => ?_)
        refine ⟨_, _, _, by go_simp <;> rfl, mul_any pr1 (gB (gR (swp m np f) np) k) _, ?_⟩
        go_simp
        refine hK _ ?_
        clear hK K
        iterate 2 (refine Text.purek rfl rfl (fun K hK => ⟨_, fun w' => by go_simp <;> rfl, ?_⟩); go_simp; refine hK _ ?_; clear hK K)
        refine Text.eff rfl rfl (fun K hK => ?_)
        go_simp
        obtain ⟨w12, hw12⟩ : ∃ w12, w12 = w10.setCell ⟨ge, 2, none⟩ (B (mul pr1 (gB (gR (swp m np f) np) k))) := ⟨_, rfl⟩
        have HE12 := Lib.hid (HE10'.out.setProd (mul pr1 (gB (gR (swp m np f) np) k)))
        have HK12 : Hid (Kp (fun k => k = gr ∨ k = ge) w3 w12) := by rw [hw12]; exact Lib.hid (Kp.set (p := ⟨ge, 2, none⟩) HK10.out (.inl (.inr rfl)) _)
        have cx12 : w12.cell? ⟨w.heap.size, 0, none⟩ = some (.pointer (some ⟨ge, 0, none⟩)) := by rw [hw12]; exact cell_set_ne cx10 (by simp <;> omega)
        have ct12 : w12.cell? ⟨wr.heap.size + 1, 0, none⟩ = some (.int .i64 (np : Int)) := by rw [hw12]; exact cell_set_ne ct10 (by simp <;> omega)
        have cc12 : w12.cell? ⟨wr.heap.size, 0, none⟩ = some (.int .i64 (k : Int)) := by rw [hw12]; exact cell_set_ne cc10 (by simp <;> omega)
        have hgoalw : w10.setCell ⟨ge, 2, none⟩ (.int .u8 (bv (mul pr1 (gB (gR (swp m np f) np) k)))) = w12 := hw12.symm
        rw [hgoalw]
        rw [← hw12] at HE12
        refine hK _ _ cx12 ?_
        clear hK K hw12 hgoalw ct10 cc10 cx10 ce10 cr10 fr10 hcP hbP HE10 HE10' HK10
        refine Text.done ?_
        have hLk : k < L := by omega
        go_wp2_with (go_at_call 94; refine (clear_any ge gr n cap _ _ _ _ _ L np k _ HE12.out.drew.drew hR10 hLl (by omega) hnp2 hLk HG10.out).mono ?_; rintro e w13 ⟨rfl, cs13, hE13, hK13⟩)
        have HK13 : Hid (Kp (fun k => k = gr ∨ k = ge) w3 w13) := Lib.hid (HK12.out.trans (kp_gr hK13.ofDrew.ofDrew))
        have n4 : ¬ w.heap.size = gr := by omega
        have n5 : ¬ wr.heap.size = gr := by omega
        have cx13 := hK13.ofDrew.ofDrew.cell cx12 n4
        have cc13 := hK13.ofDrew.ofDrew.cell cc12 n5
        have cp13 := hE13.pivCell
        have fp13 := hE13.1.frozen 1
        have hown13 : w13.ownsRow w.heap.size 3 1 (.slice Ap np cp) np piv := by
          refine (HKP13 HB3.out HK13.out).own HOWN.out (fun g hg e => ?_)
          rcases e with rfl | rfl
          · exact own_ne HOWN.out HE.out.2.1.1 (by decide) hg
          · exact own_ne HOWN.out HE.out.1 (by decide) hg
        have HE13 := Lib.hid hE13
        have HOWN13 := Lib.hid hown13
        clear hE13 hK13 hown13 cx12 cc12 ct12
        refine Text.wp_region_text (fun w' => w'.cell? ⟨w.heap.size, 0, none⟩ = some (.pointer (some ⟨ge, 0, none⟩)) ∧ w'.cell? ⟨ge, 1, none⟩ = some (.slice Ap np cp) ∧ w'.cell? ⟨wr.heap.size, 0, none⟩ = some (.int .i64 (k : Int))) [(0, 0), (1, 0), (2, 4), (3, 4), (4, 0), (5, 0), (6, 2), (7, 2), (8, 4), (9, 4), (10, 3)] (by kernel_rfl) (by kernel_rfl) (fun _ _ _ _ _ h => h) (⟨cx13, cp13, cc13⟩) ?_
        iterate 2 (refine Text.heldk rfl rfl (fun K hK => ⟨_, fun w' hw' => by go_simp <;> rfl, ?_⟩); go_simp; refine hK _ ?_; clear hK K)
        iterate 2 (refine Text.purek rfl rfl (fun K hK => ⟨_, fun w' => by go_simp <;> rfl, ?_⟩); go_simp; refine hK _ ?_; clear hK K)
        iterate 2 (refine Text.heldk rfl rfl (fun K hK => ⟨_, fun w' hw' => by go_simp <;> rfl, ?_⟩); go_simp; refine hK _ ?_; clear hK K)
        refine Text.eff rfl rfl (fun K hK => ?_)
        go_simp
        obtain ⟨wA, hwA⟩ : ∃ wA, wA = (w13.alloc (.cells #[.int .i64 (k : Int)] 3)).drew := ⟨_, rfl⟩
        have HBA : Hid (Below w13.heap.size w13 wA) := by rw [hwA]; exact Lib.hid ((Below.refl _ _).alloc (Nat.le_refl _) _).drew
        have HLA : Hid (Blk wA w13.heap.size 3 #[.int .i64 (k : Int)]) := by rw [hwA]; exact Lib.hid (Blk.new w13 _ _)
        have HOWNA := Lib.hid (Kp.own (S := fun _ => False) (Kp.of_below HBA.out) HOWN13.out (fun _ _ => id))
        rw [← hwA]
        refine hK _ _ ⟨cell_kept HBA.out cx13, cell_kept HBA.out cp13, cell_kept HBA.out cc13⟩ ?_
        clear hK K hwA
        refine Text.eff rfl rfl (fun K hK => ?_)
        have hszw : w.heap.size ≤ wA.heap.size := by
          have h1 := HKP.out.size; have h2 := HB3.out.size; have h3 := HK13.out.size; have h4 := HBA.out.size; omega
        refine wp_app1 wA (.tmp 74) (.tmp 76) 37 3 (.int .i64 0) 8 Try.underlying37 infoInt rfl rfl w.heap.size (.slice Ap np cp) np piv rfl HOWNA.out w13.heap.size 1 3 (.int .i64 (k : Int)) rfl HLA.out rfl (by omega) (by omega) hszw ?_
        rintro v' w15 ⟨ho15, hg15, hat15⟩
        obtain ⟨g15, c15, rfl, hgb15⟩ := own_form ho15 (by omega)
        have hEA := HE13.out.kept HBA.out
        have b1 : (Value.slice Ap np cp).ownBlock ≠ some ge := own_ne HOWNA.out hEA.1 (by decide)
        have b2 : (Value.slice Ap np cp).ownBlock ≠ some gr := own_ne HOWNA.out hEA.2.1.1 (by decide)
        have hbxA : Blk wA w.heap.size 96 #[.pointer (some ⟨ge, 0, none⟩)] :=
          ((HKP13 HB3.out HK13.out).blk HBX.out n3).kept HBA.out
        have b3 : (Value.slice Ap np cp).ownBlock ≠ some w.heap.size := own_ne HOWNA.out hbxA (by decide)
        have hK15 : Kp (fun b => (Value.slice Ap np cp).ownBlock = some b) wA w15 := (Kp.refl _ _).grown hg15 (fun k e => .inl e)
        have hrows15 : RowsBlk w15 gr 22 cs13 (clr (swp m np f) np k n) := by
          refine ⟨hK15.blk hEA.2.1.1 b2, hEA.2.1.2.1, fun i hi => ?_⟩
          obtain ⟨A, k', c, e, hr⟩ := hEA.2.1.2.2 i hi
          refine ⟨A, k', c, e, hr.1, hr.2.1, hr.2.2.1, fun k2 hk2 => ?_⟩
          obtain ⟨g, o, e', hc⟩ := hr.2.2.2 k2 hk2
          refine ⟨g, o, e', hK15.cell hc (fun hS => ?_)⟩
          exact (hEA.2.2.2.2.2 g (by rw [hS]; simp)).2 i A k' c (by rw [← hEA.2.2.1]; exact hi) e g o e' rfl
        have hgF : FarRows cs13 n g15 := by
          rcases hat15 with e | e
          · exact (hEA.2.2.2.2.2 g15 (by rw [← e]; simp [Value.ownBlock])).2
          · intro i A k' c hi hci g o e' hgg
            have e1 : g15 = wA.heap.size := by simpa [Value.ownBlock] using e
            have hil : i < (clr (swp m np f) np k n).length := by rw [hEA.2.2.1]; exact hi
            obtain ⟨A2, k2, c2, hci2, hr2⟩ := hEA.2.1.2.2 i hil
            rw [hci2] at hci
            injection hci with hci
            injection hci with a1 a2 a3
            subst a1
            have hk2 : k2 = L := by rw [← hr2.1]; exact clr_rect (swp m np f) L np k n hR10 (by rw [swp_length, HML.out]; exact hnp2) i hil
            obtain ⟨g', o', e2, hc2⟩ := hr2.2.2.2 0 (by omega)
            rw [e'] at e2
            injection e2 with e2
            injection e2 with e2
            have := cell_lt hc2
            simp only at this
            omega
        have hsz15 : wA.heap.size ≤ w15.heap.size := hg15.size
        have hg15lt : g15 < w15.heap.size := (ho15.lt g15 rfl).2
        have hE15 : Elim w15 ge gr n cap (.slice Ap np cp) (mul pr1 (gB (gR (swp m np f) np) k)) cs13 (clr (swp m np f) np k n) [ge, g15] := by
          refine ⟨hK15.blk hEA.1 b1, hrows15, hEA.2.2.1, hEA.2.2.2.1, by simp, fun b hb => ?_⟩
          simp only [List.mem_cons, List.not_mem_nil, or_false] at hb
          rcases hb with rfl | rfl
          · exact ⟨Nat.lt_of_lt_of_le (hEA.2.2.2.2.2 b (by simp)).1 hsz15, (hEA.2.2.2.2.2 b (by simp)).2⟩
          · exact ⟨hg15lt, hgF⟩
        have cx15 := hK15.cell (cell_kept HBA.out cx13) b3
        have n6 : (Value.slice Ap np cp).ownBlock ≠ some wr.heap.size := by
          intro e
          have hb := HOWN.out.lt _ e
          omega
        have cc15 := hK15.cell (cell_kept HBA.out cc13) n6
        have cp15 := hE15.pivCell
        have fp15 := hE15.1.frozen 1
        have HE16 := Lib.hid (hE15.setPiv (.slice (some ⟨g15, 0, none⟩) (np + 1) c15))
        have HR2 : Hid (RedI ge gr n cap L m0 w.heap.size w.heap.size (k + 1) w (w15.setCell ⟨ge, 1, none⟩ (.slice (some ⟨g15, 0, none⟩) (np + 1) c15))) := by
          refine Lib.hid ⟨clr (swp m np f) np k n, np + 1, some ⟨g15, 0, none⟩, c15, _, cs13, piv ++ [.int .i64 (k : Int)], ?_, HE16.out, clr_rect (swp m np f) L np k n hR10 (by rw [swp_length, HML.out]; exact hnp2), by omega, ?_, ?_, ?_, ?_⟩
          · show redS (red m0 k).1 (red m0 k).2 k = _
            rw [HRED.out, redS_some HPV.out, HML.out]
          · refine Kp.own (S := fun b => b = ge) (Kp.set (S := fun b => b = ge) (p := ⟨ge, 1, none⟩) (Kp.refl _ _) (.inl rfl) _) ho15 (fun g hg e => ?_)
            subst e
            exact own_ne ho15 hE15.1 (by decide) hg
          · exact (hK15.blk hbxA b3).far (by simp; omega) _
          · refine Kp.set (p := ⟨ge, 1, none⟩) ?_ (.inl (.inr rfl)) _
            refine (HKP.out.trans (((HKP13 HB3.out HK13.out).then HBA.out))).grown hg15 (fun b hb => .inr ?_)
            exact own_base HOWNA.out b hb
          · rw [World.size_setCell]; omega
        clear hrows15 hgF hEA hbxA hK15 ho15 hg15 hat15 b1 b2 b3 hE15 n6
        go_simp
        refine hK _ _ ⟨cx15, cp15, cc15⟩ ?_
        clear hK K
        iterate 2 (refine Text.purek rfl rfl (fun K hK => ⟨_, fun w' => by go_simp <;> rfl, ?_⟩); go_simp; refine hK _ ?_; clear hK K)
        refine Text.last rfl rfl (fun K hK => ?_)
        go_simp
        refine hK _ _ ?_
        clear hK K
        refine Text.done ?_
        go_wp2
        go_roundw
        case rel => exact ⟨k + 1, by omega, by go_num, HR2.out⟩
        case measure => simp [intOf]; omega
    · obtain rfl : k = cols := by omega
      have HR : Hid (RedPost ge gr n cap L m0 k w wr) := Lib.hid ⟨m, np, Ap, cp, pr1, cs1, _, hred, hE, hR, hnp, hkp⟩
      clear hE hown hbx hkp hred
      go_wp2
      rw [Exit.noGoto_normal]
      go_end0
      exact ⟨rfl, HR.out⟩
end Go.Proofs.Ytoeeklkebcgmaaa
