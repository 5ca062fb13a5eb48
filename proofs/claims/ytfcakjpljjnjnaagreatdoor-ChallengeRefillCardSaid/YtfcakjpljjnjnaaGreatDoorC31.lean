/- Several texts in one: Elim3, Elim4. -/
import Derived.Test.YtfcakjpljjnjnaaGreatDoorC30
/- Contracts of package matrix: reduce. -/
namespace Go.Proofs.YtfcakjpljjnjnaaGreatDoor
open Go.RowKit Gf

attribute [local go_sem] Gf.xor_bits Gf.and_bits Gf.or_bits Gf.ne_zero_iff Gf.eq_zero_iff Gf.eq_one_iff Gf.beq_bytes Gf.bne_bytes Gf.bv_toNat

/-- Rows i and j exchanged. -/
def swp (m : List (List UInt8)) (i j : Nat) : List (List UInt8) := (m.set i (gR m j)).set j (gR m i)
theorem swp_length (m : List (List UInt8)) (i j : Nat) : (swp m i j).length = m.length := by simp [swp]
theorem swp_get (m : List (List UInt8)) (i j k : Nat) (hi : i < m.length) (hj : j < m.length) (hk : k < m.length) : gR (swp m i j) k = gR m (if k = j then i else if k = i then j else k) := by
 unfold swp
 by_cases e : k = j
 ·
  subst e; rw [gR_set_self (by simpa using hk), if_pos rfl]
 ·
  rw [gR_set_ne (Ne.symm e), if_neg e]
  by_cases e2 : k = i
  ·
   subst e2; rw [gR_set_self hk, if_pos rfl]
  ·
   rw [gR_set_ne (Ne.symm e2), if_neg e2]
theorem swp_rect (m : List (List UInt8)) (L i j : Nat) (hr : Rect m L) (hi : i < m.length) (hj : j < m.length) : Rect (swp m i j) L := by
 intro k hk
 rw [swp_length] at hk
 rw [swp_get m i j k hi hj hk]
 apply hr
 by_cases e : k = j
 ·
  rw [if_pos e]; exact hi
 ·
  rw [if_neg e]; by_cases e2 : k = i
  ·
   rw [if_pos e2]; exact hj
  ·
   rw [if_neg e2]; exact hk

/-- One column of reduce: the rows, and how many pivots there are. -/
def redS (m : List (List UInt8)) (np col : Nat) : List (List UInt8) × Nat :=
 match pvF m np col with
 | some f => (clr (swp m np f) np col m.length, np + 1)
 | none => (m, np)
def red (m : List (List UInt8)) : Nat → List (List UInt8) × Nat
 | 0 => (m, 0)
 | k + 1 => redS (red m k).1 (red m k).2 k

theorem Elim.drew {w : World} {ge gr n cap : Nat} {pv : Value} {pr : UInt8} {cs : Array Value} {m : List (List UInt8)} {F : List Nat} (h : Elim w ge gr n cap pv pr cs m F) : Elim w.drew ge gr n cap pv pr cs m F := h
theorem Kp.ofDrew {S : Nat → Prop} {w w' : World} (h : Kp S w.drew w') : Kp S w w' := ⟨h.os, h.tape, h.output, h.size, h.block⟩
theorem redS_none {m : List (List UInt8)} {np col : Nat} (h : pvF m np col = none) : redS m np col = (m, np) := by unfold redS; rw [h]
theorem redS_some {m : List (List UInt8)} {np col f : Nat} (h : pvF m np col = some f) : redS m np col = (clr (swp m np f) np col m.length, np + 1) := by unfold redS; rw [h]

theorem e8own_form {w : World} {base : Nat} {e : TypeId} {n : Nat} {v : Value} {xs : List Value} (h : w.ownsRow base e 1 v n xs) (hn : 0 < n) : ∃ g cap, v = .slice (some ⟨g, 0, none⟩) n cap ∧ base ≤ g := by
 rcases h.2 with ⟨_, rfl⟩ | ⟨g, cap, cur, rfl, hb, _⟩
 ·
  omega
 ·
  exact ⟨g, cap, rfl, hb⟩

def RedI (ge gr n cap L : Nat) (m0 : List (List UInt8)) (gx B0 k : Nat) (w wr : World) : Prop :=
 ∃ m np Ap cp pr cs piv, red m0 k = (m, np) ∧ Elim wr ge gr n cap (.slice Ap np cp) pr cs m (ge :: (Value.slice Ap np cp).ownBlock.toList) ∧ Rect m L ∧ np ≤ n ∧ wr.ownsRow B0 3 1 (.slice Ap np cp) np piv ∧
  Blk wr gx 209 #[.pointer (some ⟨ge, 0, none⟩)] ∧ Kp (fun k => k = gr ∨ k = ge) w wr ∧ B0 < wr.heap.size

def RedPost (ge gr n cap L : Nat) (m0 : List (List UInt8)) (k : Nat) (w w' : World) : Prop :=
 ∃ m np Ap cp pr cs F, red m0 k = (m, np) ∧ Elim w' ge gr n cap (.slice Ap np cp) pr cs m F ∧ Rect m L ∧ np ≤ n ∧ Kp (fun k => k = gr ∨ k = ge) w w'

theorem HKP13 {S : Nat → Prop} {w w1 w2 : World} (h : Below w.heap.size w w1) (k : Kp S w1 w2) : Kp S w w2 := (Kp.of_below h).trans k
theorem kp_gr {ge gr : Nat} {w w' : World} (h : Kp (· = gr) w w') : Kp (fun k => k = gr ∨ k = ge) w w' := h.mono (fun _ _ e => .inl e)

set_option maxHeartbeats 4000000 in
theorem reduce_any (ge gr n cap : Nat) (pr : UInt8) (cs : Array Value) (m0 : List (List UInt8)) (L cols : Nat) (w : World) (h : Elim w ge gr n cap (.slice none 0 0) pr cs m0 [ge]) (hL : Rect m0 L) (hLl : L ≤ 140737488355328) (hn : n ≤ 1000) (hcols : cols ≤ L) :
  Calls Tryz.prog 161 #[.pointer (some ⟨ge, 0, none⟩), .int .i64 (cols : Int)] w fun e w' => e = .returned (.tuple #[]) ∧ RedPost ge gr n cap L m0 cols w w' := by
 have hmf : ∀ (fn : Fn) (first cap : Array Value) (w : World), (Instr.makeFunc fn first cap).run Tryz.prog w = .ok (.func fn first cap) w := fun _ _ _ _ => rfl
 have hge := h.1.lt
 have hgr := h.2.1.1.lt
 have HE0 := Lib.hid h
 clear h
 go_enter Tryz.func161, Tryz.ntmps161
 go_wp2
 go_step3
 go_wp2
 go_step3
 go_wp2
 go_loopw [9] (fun i wr => ∃ k : Nat, k ≤ cols ∧ i = .int .i64 (k : Int) ∧ RedI ge gr n cap L m0 w.heap.size w.heap.size k w wr) (fun i _ => cols - (intOf i).toNat)
 case atStart =>
  refine ⟨0, by omega, rfl, m0, 0, none, 0, pr, cs, [], rfl, HE0.out.kept ((Below.refl _ _).alloc (Nat.le_refl _) _), hL, by omega, World.ownsRow_nil _ _ _ _, Blk.new _ _ _, (Kp.refl _ _).alloc _, by simp⟩
 case round =>
  obtain ⟨k, hk, rfl, m, np, Ap, cp, pr1, cs1, piv, hred, hE, hR, hnp, hown, hbx, hkp, hsz⟩ := hrel
  by_cases hlt : k < cols
  ·
   have cx := hbx.cell 0
   have cp1 := hE.pivCell
   have hge1 := hE.1.lt
   have hbel : Below wr.heap.size wr ((wr.alloc (.cells #[.int .i64 (k : Int)] 3)).alloc (.cells #[.int .i64 (np : Int)] 3)) :=
    ((Below.refl _ _).alloc (Nat.le_refl _) _).alloc (by simp) _
   have HBEL := Lib.hid hbel
   have HE := Lib.hid hE
   have HOWN := Lib.hid hown
   have HBX := Lib.hid hbx
   have HKP := Lib.hid hkp
   have HRED := Lib.hid hred
   have hcx : wr.cell? ⟨w.heap.size, 0, none⟩ = some (.pointer (some ⟨ge, 0, none⟩)) := cx
   clear hE hown hbx hkp hred cx hbel
   go_wp2_with fail
   have ctt : ((wr.alloc (.cells #[.int .i64 (k : Int)] 3)).alloc (.cells #[.int .i64 (np : Int)] 3)).cell? ⟨wr.heap.size + 1, 0, none⟩ = some (.int .i64 (np : Int)) := by
    rw [World.cell?_alloc_at _ _ _ _ (by simp)]; rfl
   have ccc : ((wr.alloc (.cells #[.int .i64 (k : Int)] 3)).alloc (.cells #[.int .i64 (np : Int)] 3)).cell? ⟨wr.heap.size, 0, none⟩ = some (.int .i64 (k : Int)) := by
    rw [World.cell?_alloc_past _ _ _ (by simp), World.cell?_alloc_at _ _ _ _ rfl]; rfl
   refine (e8find_any (wr.heap.size + 1) w.heap.size wr.heap.size ge gr n cap _ pr1 cs1 m _ L np k _ (HE.out.kept HBEL.out) hR (by omega) hnp (by omega) ctt (cell_kept HBEL.out hcx) ccc).mono ?_
   rintro e w3 ⟨rfl, q, hw3⟩
   have hb3 : Below wr.heap.size wr w3 := by rw [hw3]; exact below_drewN HBEL.out q
   have ct3 : w3.cell? ⟨wr.heap.size + 1, 0, none⟩ = some (.int .i64 (np : Int)) := by rw [hw3]; exact ctt
   have cc3 : w3.cell? ⟨wr.heap.size, 0, none⟩ = some (.int .i64 (k : Int)) := by rw [hw3]; exact ccc
   have hs3 : w3.heap.size = wr.heap.size + 2 := by rw [hw3, size_drewN]; simp
   have HS3 := Lib.hid hs3
   have HB3 := Lib.hid hb3
   clear hw3 ctt ccc hs3 hb3
   cases hpv : pvF m np k with
   | none =>
    have HR2 : Hid (RedI ge gr n cap L m0 w.heap.size w.heap.size (k + 1) w w3) := by
     refine Lib.hid ⟨m, np, Ap, cp, pr1, cs1, piv, ?_, HE.out.kept HB3.out, hR, hnp, ?_, HBX.out.kept HB3.out, HKP.out.then HB3.out, by rw [HS3.out]; omega⟩
     ·
      show redS (red m0 k).1 (red m0 k).2 k = _
      rw [HRED.out]; exact redS_none hpv
     ·
      exact HOWN.out.kept ⟨HB3.out.os, HB3.out.tape, HB3.out.output, HB3.out.size, fun i hi _ => HB3.out.block i hi⟩ (row := none) (by cases Ap <;> simp [Value.ownBlock])
    simp only [pvI]
    clear hpv hcx ct3 cc3 cp1
    go_wp2
    go_roundw
    case rel => exact ⟨k + 1, by omega, by go_num, HR2.out⟩
    case measure => simp [intOf]; omega
   | some f =>
    obtain ⟨hf1, hf2, hf3⟩ := pvF_spec hpv
    rw [HE.out.2.2.1] at hf2
    simp only [pvI]
    have HPV := Lib.hid hpv
    have HF3 := Lib.hid hf3
    have HE3 := Lib.hid (HE.out.kept HB3.out)
    have hnp2 : np < n := by omega
    obtain ⟨AF, cF, hcF, hrF⟩ := HE3.out.row hR hf2
    obtain ⟨AT, cT, hcT, hrT⟩ := HE3.out.row hR hnp2
    have HRF := Lib.hid hrF
    have HRT := Lib.hid hrT
    have ce3 := HE3.out.rowsCell
    have cx3 := cell_kept HB3.out hcx
    have fT := HE3.out.2.1.1.frozen np
    have fF := HE3.out.2.1.1.frozen f
    have q0 : ¬ ((f : Int) < 0) := by omega
    clear hpv hf3 hrF hrT cp1 hcx
    go_wp2
    refine Text.wp_region_text (fun _ => True) [(9, 4), (14, 4), (0, 1), (1, 4), (2, 4), (3, 1), (4, 1), (5, 1), (6, 4), (7, 4), (8, 1), (10, 1), (11, 4), (12, 4), (13, 1), (15, 4), (16, 1), (17, 1), (18, 4), (19, 4), (20, 1), (21, 1), (22, 4), (23, 1), (24, 4), (25, 2), (26, 4), (27, 2)] (by kernel_rfl) (by kernel_rfl) (fun _ _ _ _ _ h => h) (trivial) ?_
    iterate 2 (refine Text.purek rfl rfl (fun K hK => ⟨_, fun w' => by go_simp <;> rfl, ?_⟩); go_simp; refine hK _ ?_; clear hK K)
    (refine Text.readk rfl rfl (fun K hK => ⟨_, by go_simp <;> rfl, ?_⟩); go_simp; refine hK _ ?_; clear hK K)
    iterate 2 (refine Text.purek rfl rfl (fun K hK => ⟨_, fun w' => by go_simp <;> rfl, ?_⟩); go_simp; refine hK _ ?_; clear hK K)
    iterate 3 (refine Text.readk rfl rfl (fun K hK => ⟨_, by go_simp <;> rfl, ?_⟩); go_simp; refine hK _ ?_; clear hK K)
    iterate 2 (refine Text.purek rfl rfl (fun K hK => ⟨_, fun w' => by go_simp <;> rfl, ?_⟩); go_simp; refine hK _ ?_; clear hK K)
    iterate 2 (refine Text.readk rfl rfl (fun K hK => ⟨_, by go_simp <;> rfl, ?_⟩); go_simp; refine hK _ ?_; clear hK K)
    iterate 2 (refine Text.purek rfl rfl (fun K hK => ⟨_, fun w' => by go_simp <;> rfl, ?_⟩); go_simp; refine hK _ ?_; clear hK K)
    (refine Text.readk rfl rfl (fun K hK => ⟨_, by go_simp <;> rfl, ?_⟩); go_simp; refine hK _ ?_; clear hK K)
    (refine Text.purek rfl rfl (fun K hK => ⟨_, fun w' => by go_simp <;> rfl, ?_⟩); go_simp; refine hK _ ?_; clear hK K)
    iterate 2 (refine Text.readk rfl rfl (fun K hK => ⟨_, by go_simp <;> rfl, ?_⟩); go_simp; refine hK _ ?_; clear hK K)
    iterate 2 (refine Text.purek rfl rfl (fun K hK => ⟨_, fun w' => by go_simp <;> rfl, ?_⟩); go_simp; refine hK _ ?_; clear hK K)
    iterate 2 (refine Text.readk rfl rfl (fun K hK => ⟨_, by go_simp <;> rfl, ?_⟩); go_simp; refine hK _ ?_; clear hK K)
    (refine Text.purek rfl rfl (fun K hK => ⟨_, fun w' => by go_simp <;> rfl, ?_⟩); go_simp; refine hK _ ?_; clear hK K)
    (refine Text.readk rfl rfl (fun K hK => ⟨_, by go_simp <;> rfl, ?_⟩); go_simp; refine hK _ ?_; clear hK K)
    (refine Text.purek rfl rfl (fun K hK => ⟨_, fun w' => by go_simp <;> rfl, ?_⟩); go_simp; refine hK _ ?_; clear hK K)
    refine Text.eff rfl rfl (fun K hK => ?_)
    go_simp
    obtain ⟨w9, hw9⟩ : ∃ w9, w9 = w3.setCell ⟨gr, np, none⟩ (.slice AF L cF) := ⟨_, rfl⟩
    have hcsF : cs1[f]? = some (.slice AF L cF) := by rw [← HE3.out.2.1.1.cell]; exact hcF
    have hcsT : cs1[np]? = some (.slice AT L cT) := by rw [← HE3.out.2.1.1.cell]; exact hcT
    have HE9 := Lib.hid (HE3.out.setRow hnp2 HRF.out (fun g o e hF => (HE3.out.2.2.2.2.2 g hF).2 f AF L cF hf2 hcsF g o e rfl))
    have HRT9 := Lib.hid (HRT.out.store hcT (.slice AF L cF))
    have HK9 : Hid (Kp (fun k => k = gr ∨ k = ge) w3 w9) := by rw [hw9]; exact Lib.hid (Kp.set (p := ⟨gr, np, none⟩) (Kp.refl _ _) (.inl (.inl rfl)) _)
    rw [← hw9] at HE9 HRT9 ⊢
    obtain ⟨A8, n8, c8, hc8, _⟩ := HE9.out.2.1.cell (i := f) (by rw [HE9.out.2.2.1]; exact hf2)
    have f8 := HE9.out.2.1.1.frozen f
    refine hK _ _ trivial ?_
    clear hK K hw9 hcF hcT fT fF
    (refine Text.purek rfl rfl (fun K hK => ⟨_, fun w' => by go_simp <;> rfl, ?_⟩); go_simp; refine hK _ ?_; clear hK K)
    refine Text.eff rfl rfl (fun K hK => ?_)
    go_simp
    obtain ⟨w10, hw10⟩ : ∃ w10, w10 = w9.setCell ⟨gr, f, none⟩ (.slice AT L cT) := ⟨_, rfl⟩
    have HE10 := Lib.hid (HE9.out.setRow hf2 HRT9.out (fun g o e hF => (HE3.out.2.2.2.2.2 g hF).2 np AT L cT hnp2 hcsT g o e rfl))
    have HK10 : Hid (Kp (fun k => k = gr ∨ k = ge) w3 w10) := by rw [hw10]; exact Lib.hid (Kp.set (p := ⟨gr, f, none⟩) HK9.out (.inl (.inl rfl)) _)
    rw [← hw10] at HE10 ⊢
    refine hK _ _ trivial ?_
    clear hK K hw10 hc8 f8 HE9 HRT9 HK9 hcsF hcsT ce3
    refine Text.done ?_
    have hml : m.length = n := HE.out.2.2.1
    have HML := Lib.hid hml
    have hR10 : Rect (swp m np f) L := swp_rect m L np f hR (by rw [hml]; exact hnp2) (by rw [hml]; exact hf2)
    have hg10 : gR (swp m np f) np = gR m f := by
     rw [swp_get m np f np (by rw [hml]; exact hnp2) (by rw [hml]; exact hf2) (by rw [hml]; exact hnp2)]
     by_cases e : np = f
     ·
      rw [if_pos e, e]
     ·
      rw [if_neg e, if_pos rfl]
    have HG10 : Hid (gB (gR (swp m np f) np) k ≠ 0) := by rw [hg10]; exact HF3
    have HE10' : Hid (Elim w10 ge gr n cap (.slice Ap np cp) pr1 _ (swp m np f) _) := HE10
    obtain ⟨AP, cP, hcP, hrP⟩ := HE10'.out.row hR10 hnp2
    obtain ⟨gp, op, rfl, hbP⟩ := hrP.at_ (Below.refl _ _) (show k < L by omega)
    have hkL : k < L := by omega
    have hgr1 := HE.out.2.1.1.lt
    have n1 : ¬ (wr.heap.size + 1 = gr ∨ wr.heap.size + 1 = ge) := by omega
    have n2 : ¬ (wr.heap.size = gr ∨ wr.heap.size = ge) := by omega
    have n3 : ¬ (w.heap.size = gr ∨ w.heap.size = ge) := by omega
    have ct10 := HK10.out.cell ct3 n1
    have cc10 := HK10.out.cell cc3 n2
    have cx10 := HK10.out.cell cx3 n3
    have ce10 := HE10'.out.rowsCell
    have cr10 := HE10'.out.prodCell
    have fr10 := HE10'.out.1.frozen 2
    clear hml hg10 hrP ct3 cc3 cx3
    go_wp2
    refine Text.wp_region_text (fun w' => w'.cell? ⟨w.heap.size, 0, none⟩ = some (.pointer (some ⟨ge, 0, none⟩))) [(0, 0), (1, 1), (2, 4), (3, 4), (4, 1), (5, 1), (6, 4), (7, 4), (8, 1), (9, 1), (10, 4), (11, 1), (12, 1), (13, 4), (14, 1), (15, 1), (16, 4), (17, 4), (18, 2)] (by kernel_rfl) (by kernel_rfl) (fun _ _ _ _ _ h => h) (cx10) ?_
    (refine Text.heldk rfl rfl (fun K hK => ⟨_, fun w' hw' => by go_simp <;> rfl, ?_⟩); go_simp; refine hK _ ?_; clear hK K)
    (refine Text.readk rfl rfl (fun K hK => ⟨_, by go_simp <;> rfl, ?_⟩); go_simp; refine hK _ ?_; clear hK K)
    iterate 2 (refine Text.purek rfl rfl (fun K hK => ⟨_, fun w' => by go_simp <;> rfl, ?_⟩); go_simp; refine hK _ ?_; clear hK K)
    iterate 2 (refine Text.readk rfl rfl (fun K hK => ⟨_, by go_simp <;> rfl, ?_⟩); go_simp; refine hK _ ?_; clear hK K)
    iterate 2 (refine Text.purek rfl rfl (fun K hK => ⟨_, fun w' => by go_simp <;> rfl, ?_⟩); go_simp; refine hK _ ?_; clear hK K)
    iterate 2 (refine Text.readk rfl rfl (fun K hK => ⟨_, by go_simp <;> rfl, ?_⟩); go_simp; refine hK _ ?_; clear hK K)
    (refine Text.purek rfl rfl (fun K hK => ⟨_, fun w' => by go_simp <;> rfl, ?_⟩); go_simp; refine hK _ ?_; clear hK K)
    iterate 2 (refine Text.readk rfl rfl (fun K hK => ⟨_, by go_simp <;> rfl, ?_⟩); go_simp; refine hK _ ?_; clear hK K)
    (refine Text.purek rfl rfl (fun K hK => ⟨_, fun w' => by go_simp <;> rfl, ?_⟩); go_simp; refine hK _ ?_; clear hK K)
    (refine Text.readk rfl rfl (fun K hK => ⟨_, by go_simp <;> rfl, ?_⟩); go_simp; refine hK _ ?_; clear hK K)
    refine Text.quietk rfl rfl (fun K hK => ?_)
    refine ⟨_, _, _, by go_simp <;> rfl, mul_any pr1 (gB (gR (swp m np f) np) k) _, ?_⟩
    go_simp
    refine hK _ ?_
    clear hK K
    iterate 2 (refine Text.purek rfl rfl (fun K hK => ⟨_, fun w' => by go_simp <;> rfl, ?_⟩); go_simp; refine hK _ ?_; clear hK K)
    refine Text.eff rfl rfl (fun K hK => ?_)
    go_simp
    obtain ⟨w12, hw12⟩ : ∃ w12, w12 = w10.setCell ⟨ge, 2, none⟩ (B (mul pr1 (gB (gR (swp m np f) np) k))) := ⟨_, rfl⟩
    have HE12 := Lib.hid (HE10'.out.setProd (mul pr1 (gB (gR (swp m np f) np) k)))
    have HK12 : Hid (Kp (fun k => k = gr ∨ k = ge) w3 w12) := by rw [hw12]; exact Lib.hid (Kp.set (p := ⟨ge, 2, none⟩) HK10.out (.inl (.inr rfl)) _)
    have cx12 : w12.cell? ⟨w.heap.size, 0, none⟩ = some (.pointer (some ⟨ge, 0, none⟩)) := by rw [hw12]; exact cell_set_ne cx10 (by simp <;> omega)
    have ct12 : w12.cell? ⟨wr.heap.size + 1, 0, none⟩ = some (.int .i64 (np : Int)) := by rw [hw12]; exact cell_set_ne ct10 (by simp <;> omega)
    have cc12 : w12.cell? ⟨wr.heap.size, 0, none⟩ = some (.int .i64 (k : Int)) := by rw [hw12]; exact cell_set_ne cc10 (by simp <;> omega)
    have hgoalw : w10.setCell ⟨ge, 2, none⟩ (.int .u8 (bv (mul pr1 (gB (gR (swp m np f) np) k)))) = w12 := hw12.symm
    rw [hgoalw]
    rw [← hw12] at HE12
    refine hK _ _ cx12 ?_
    clear hK K hw12 hgoalw ct10 cc10 cx10 ce10 cr10 fr10 hcP hbP HE10 HE10' HK10
    refine Text.done ?_
    have hLk : k < L := by omega
    go_wp2_with (go_at_call 165; refine (clear_any ge gr n cap _ _ _ _ _ L np k _ HE12.out.drew.drew hR10 hLl (by omega) hnp2 hLk HG10.out).mono ?_; rintro e w13 ⟨rfl, cs13, hE13, hK13⟩)
    have HK13 : Hid (Kp (fun k => k = gr ∨ k = ge) w3 w13) := Lib.hid (HK12.out.trans (kp_gr hK13.ofDrew.ofDrew))
    have n4 : ¬ w.heap.size = gr := by omega
    have n5 : ¬ wr.heap.size = gr := by omega
    have cx13 := hK13.ofDrew.ofDrew.cell cx12 n4
    have cc13 := hK13.ofDrew.ofDrew.cell cc12 n5
    have cp13 := hE13.pivCell
    have fp13 := hE13.1.frozen 1
    have hown13 : w13.ownsRow w.heap.size 3 1 (.slice Ap np cp) np piv := by
     refine (HKP13 HB3.out HK13.out).own HOWN.out (fun g hg e => ?_)
     rcases e with rfl | rfl
     ·
      exact own_ne HOWN.out HE.out.2.1.1 (by decide) hg
     ·
      exact own_ne HOWN.out HE.out.1 (by decide) hg
    have HE13 := Lib.hid hE13
    have HOWN13 := Lib.hid hown13
    clear hE13 hK13 hown13 cx12 cc12 ct12
    refine Text.wp_region_text (fun w' => w'.cell? ⟨w.heap.size, 0, none⟩ = some (.pointer (some ⟨ge, 0, none⟩)) ∧ w'.cell? ⟨ge, 1, none⟩ = some (.slice Ap np cp) ∧ w'.cell? ⟨wr.heap.size, 0, none⟩ = some (.int .i64 (k : Int))) [(0, 0), (1, 0), (2, 4), (3, 4), (4, 0), (5, 0), (6, 2), (7, 2), (8, 4), (9, 4), (10, 3)] (by kernel_rfl) (by kernel_rfl) (fun _ _ _ _ _ h => h) (⟨cx13, cp13, cc13⟩) ?_
    iterate 2 (refine Text.heldk rfl rfl (fun K hK => ⟨_, fun w' hw' => by go_simp <;> rfl, ?_⟩); go_simp; refine hK _ ?_; clear hK K)
    iterate 2 (refine Text.purek rfl rfl (fun K hK => ⟨_, fun w' => by go_simp <;> rfl, ?_⟩); go_simp; refine hK _ ?_; clear hK K)
    iterate 2 (refine Text.heldk rfl rfl (fun K hK => ⟨_, fun w' hw' => by go_simp <;> rfl, ?_⟩); go_simp; refine hK _ ?_; clear hK K)
    refine Text.eff rfl rfl (fun K hK => ?_)
    go_simp
    obtain ⟨wA, hwA⟩ : ∃ wA, wA = (w13.alloc (.cells #[.int .i64 (k : Int)] 3)).drew := ⟨_, rfl⟩
    have HBA : Hid (Below w13.heap.size w13 wA) := by rw [hwA]; exact Lib.hid ((Below.refl _ _).alloc (Nat.le_refl _) _).drew
    have HLA : Hid (Blk wA w13.heap.size 3 #[.int .i64 (k : Int)]) := by rw [hwA]; exact Lib.hid (Blk.new w13 _ _)
    have HOWNA := Lib.hid (Kp.own (S := fun _ => False) (Kp.of_below HBA.out) HOWN13.out (fun _ _ => id))
    rw [← hwA]
    refine hK _ _ ⟨cell_kept HBA.out cx13, cell_kept HBA.out cp13, cell_kept HBA.out cc13⟩ ?_
    clear hK K hwA
    refine Text.eff rfl rfl (fun K hK => ?_)
    have hszw : w.heap.size ≤ wA.heap.size := by
     have h1 := HKP.out.size; have h2 := HB3.out.size; have h3 := HK13.out.size; have h4 := HBA.out.size; omega
    refine wp_app1 wA (.tmp 74) (.tmp 76) 52 3 (.int .i64 0) 8 Tryz.underlying52 infoInt rfl rfl w.heap.size (.slice Ap np cp) np piv rfl HOWNA.out w13.heap.size 1 3 (.int .i64 (k : Int)) rfl HLA.out rfl (by omega) (by omega) hszw ?_
    rintro v' w15 ⟨ho15, hg15, hat15⟩
    obtain ⟨g15, c15, rfl, hgb15⟩ := e8own_form ho15 (by omega)
    have hEA := HE13.out.kept HBA.out
    have b1 : (Value.slice Ap np cp).ownBlock ≠ some ge := own_ne HOWNA.out hEA.1 (by decide)
    have b2 : (Value.slice Ap np cp).ownBlock ≠ some gr := own_ne HOWNA.out hEA.2.1.1 (by decide)
    have hbxA : Blk wA w.heap.size 209 #[.pointer (some ⟨ge, 0, none⟩)] :=
     ((HKP13 HB3.out HK13.out).blk HBX.out n3).kept HBA.out
    have b3 : (Value.slice Ap np cp).ownBlock ≠ some w.heap.size := own_ne HOWNA.out hbxA (by decide)
    have hK15 : Kp (fun b => (Value.slice Ap np cp).ownBlock = some b) wA w15 := (Kp.refl _ _).grown hg15 (fun k e => .inl e)
    have hrows15 : RowsBlk w15 gr 39 cs13 (clr (swp m np f) np k n) := by
     refine ⟨hK15.blk hEA.2.1.1 b2, hEA.2.1.2.1, fun i hi => ?_⟩
     obtain ⟨A, k', c, e, hr⟩ := hEA.2.1.2.2 i hi
     refine ⟨A, k', c, e, hr.1, hr.2.1, hr.2.2.1, fun k2 hk2 => ?_⟩
     obtain ⟨g, o, e', hc⟩ := hr.2.2.2 k2 hk2
     refine ⟨g, o, e', hK15.cell hc (fun hS => ?_)⟩
     exact (hEA.2.2.2.2.2 g (by rw [hS]; simp)).2 i A k' c (by rw [← hEA.2.2.1]; exact hi) e g o e' rfl
    have hgF : FarRows cs13 n g15 := by
     rcases hat15 with e | e
     ·
      exact (hEA.2.2.2.2.2 g15 (by rw [← e]; simp [Value.ownBlock])).2
     ·
      intro i A k' c hi hci g o e' hgg
      have e1 : g15 = wA.heap.size := by simpa [Value.ownBlock] using e
      have hil : i < (clr (swp m np f) np k n).length := by rw [hEA.2.2.1]; exact hi
      obtain ⟨A2, k2, c2, hci2, hr2⟩ := hEA.2.1.2.2 i hil
      rw [hci2] at hci
      injection hci with hci
      injection hci with a1 a2 a3
      subst a1
      have hk2 : k2 = L := by rw [← hr2.1]; exact clr_rect (swp m np f) L np k n hR10 (by rw [swp_length, HML.out]; exact hnp2) i hil
      obtain ⟨g', o', e2, hc2⟩ := hr2.2.2.2 0 (by omega)
      rw [e'] at e2
      injection e2 with e2
      injection e2 with e2
      have := cell_lt hc2
      simp only at this
      omega
    have hsz15 : wA.heap.size ≤ w15.heap.size := hg15.size
    have hg15lt : g15 < w15.heap.size := (ho15.lt g15 rfl).2
    have hE15 : Elim w15 ge gr n cap (.slice Ap np cp) (mul pr1 (gB (gR (swp m np f) np) k)) cs13 (clr (swp m np f) np k n) [ge, g15] := by
     refine ⟨hK15.blk hEA.1 b1, hrows15, hEA.2.2.1, hEA.2.2.2.1, by simp, fun b hb => ?_⟩
     simp only [List.mem_cons, List.not_mem_nil, or_false] at hb
     rcases hb with rfl | rfl
     ·
      exact ⟨Nat.lt_of_lt_of_le (hEA.2.2.2.2.2 b (by simp)).1 hsz15, (hEA.2.2.2.2.2 b (by simp)).2⟩
     ·
      exact ⟨hg15lt, hgF⟩
    have cx15 := hK15.cell (cell_kept HBA.out cx13) b3
    have n6 : (Value.slice Ap np cp).ownBlock ≠ some wr.heap.size := by
     intro e
     have hb := HOWN.out.lt _ e
     omega
    have cc15 := hK15.cell (cell_kept HBA.out cc13) n6
    have cp15 := hE15.pivCell
    have fp15 := hE15.1.frozen 1
    have HE16 := Lib.hid (hE15.setPiv (.slice (some ⟨g15, 0, none⟩) (np + 1) c15))
    have HR2 : Hid (RedI ge gr n cap L m0 w.heap.size w.heap.size (k + 1) w (w15.setCell ⟨ge, 1, none⟩ (.slice (some ⟨g15, 0, none⟩) (np + 1) c15))) := by
     refine Lib.hid ⟨clr (swp m np f) np k n, np + 1, some ⟨g15, 0, none⟩, c15, _, cs13, piv ++ [.int .i64 (k : Int)], ?_, HE16.out, clr_rect (swp m np f) L np k n hR10 (by rw [swp_length, HML.out]; exact hnp2), by omega, ?_, ?_, ?_, ?_⟩
     ·
      show redS (red m0 k).1 (red m0 k).2 k = _
      rw [HRED.out, redS_some HPV.out, HML.out]
     ·
      refine Kp.own (S := fun b => b = ge) (Kp.set (S := fun b => b = ge) (p := ⟨ge, 1, none⟩) (Kp.refl _ _) (.inl rfl) _) ho15 (fun g hg e => ?_)
      subst e
      exact own_ne ho15 hE15.1 (by decide) hg
     ·
      exact (hK15.blk hbxA b3).far (by simp; omega) _
     ·
      refine Kp.set (p := ⟨ge, 1, none⟩) ?_ (.inl (.inr rfl)) _
      refine (HKP.out.trans (((HKP13 HB3.out HK13.out).then HBA.out))).grown hg15 (fun b hb => .inr ?_)
      exact own_base HOWNA.out b hb
     ·
      rw [World.size_setCell]; omega
    clear hrows15 hgF hEA hbxA hK15 ho15 hg15 hat15 b1 b2 b3 hE15 n6
    go_simp
    refine hK _ _ ⟨cx15, cp15, cc15⟩ ?_
    clear hK K
    iterate 2 (refine Text.purek rfl rfl (fun K hK => ⟨_, fun w' => by go_simp <;> rfl, ?_⟩); go_simp; refine hK _ ?_; clear hK K)
    refine Text.last rfl rfl (fun K hK => ?_)
    go_simp
    refine hK _ _ ?_
    clear hK K
    refine Text.done ?_
    go_wp2
    go_roundw
    case rel => exact ⟨k + 1, by omega, by go_num, HR2.out⟩
    case measure => simp [intOf]; omega
  ·
   obtain rfl : k = cols := by omega
   have HR : Hid (RedPost ge gr n cap L m0 k w wr) := Lib.hid ⟨m, np, Ap, cp, pr1, cs1, _, hred, hE, hR, hnp, hkp⟩
   clear hE hown hbx hkp hred
   go_wp2
   rw [Exit.noGoto_normal]
   go_end0
   exact ⟨rfl, HR.out⟩
end Go.Proofs.YtfcakjpljjnjnaaGreatDoor
/- Contracts of package matrix: eliminate, Inverse. -/
namespace Go.Proofs.YtfcakjpljjnjnaaGreatDoor
open Go.RowKit Gf

attribute [local go_sem] Gf.xor_bits Gf.and_bits Gf.or_bits Gf.ne_zero_iff Gf.eq_zero_iff Gf.eq_one_iff Gf.beq_bytes Gf.bne_bytes Gf.bv_toNat

/-- The rows of m, each followed by that of right. -/
def jrow (m right : List (List UInt8)) (j : Nat) : List UInt8 := gR m j ++ gR right j
def jmat (m right : List (List UInt8)) (k : Nat) : List (List UInt8) := (List.range k).map (jrow m right)
theorem jmat_length (m right : List (List UInt8)) (k : Nat) : (jmat m right k).length = k := by simp [jmat]
theorem jmat_get (m right : List (List UInt8)) (k j : Nat) (h : j < k) : gR (jmat m right k) j = jrow m right j := by
 rw [gR_eq (by rw [jmat_length]; exact h)]; simp [jmat]
/-- The rows that eliminate has joined. -/
def Joined (w : World) (ps : List Value) (ge : Nat) (own : Option Nat) (L : Nat) (m right : List (List UInt8)) (k : Nat) : Prop :=
 ps.length = k ∧ ∀ j, j < k → ∃ A c, ps[j]? = some (.slice A L c) ∧ BS w A L c (jrow m right j) ∧ ∀ g o, A = some ⟨g, o, none⟩ → g ≠ ge ∧ own ≠ some g

def ElI (m right : List (List UInt8)) (ge L k : Nat) (w wr : World) : Prop :=
 ∃ AR cR ps, Blk wr ge 213 #[.slice AR k cR, .slice none 0 0, B 1] ∧ wr.ownsRow w.heap.size 39 1 (.slice AR k cR) k ps ∧
  Joined wr ps ge (Value.slice AR k cR).ownBlock L m right k ∧ Below w.heap.size w wr ∧ ge < wr.heap.size

/-- What eliminate returns: the pointer to an elimination whose rows are those of j, reduced in the first n columns. -/
def ElimRet (j : List (List UInt8)) (n : Nat) (w : World) (e : Ending) (w' : World) : Prop :=
 ∃ ge gr cap m np Ap cp pr cs F, e = .returned (.pointer (some ⟨ge, 0, none⟩)) ∧ red j n = (m, np) ∧ Elim w' ge gr n cap (.slice Ap np cp) pr cs m F ∧ Rect m (n + n) ∧ np ≤ n ∧ Below w.heap.size w w'

theorem jrow_length (m right : List (List UInt8)) (n k : Nat) (hm : Rect m n) (hr : Rect right n) (h1 : k < m.length) (h2 : k < right.length) : (jrow m right k).length = n + n := by
 unfold jrow; rw [List.length_append, hm k h1, hr k h2]

theorem ElI_elim {m right : List (List UInt8)} {ge L n : Nat} {w wr : World} (h : ElI m right ge L n w wr) (hn : 0 < n) (_hL : 0 < L) : ∃ gr cap cs, Elim wr ge gr n cap (.slice none 0 0) 1 cs (jmat m right n) [ge] ∧ wr.cell? ⟨ge, 0, none⟩ = some (.slice (some ⟨gr, 0, none⟩) n cap) ∧ w.heap.size ≤ gr := by
 obtain ⟨AR, cR, ps, hblk, hown, hj, hb, hge⟩ := h
 rcases hown.2 with ⟨_, h0⟩ | ⟨gr, cap, cur, e, hbase, hh, hnc, _, hsz, htk⟩
 ·
  omega
 ·
  injection e with e1 _ e3
  subst e1 e3
  have hne : ge ≠ gr := by
   intro e
   subst e
   exact own_ne hown hblk (by decide) rfl
  have hget : ∀ i, i < n → cur[i]? = ps[i]? := fun i hi => by
   rw [← htk, List.getElem?_take]
   rw [if_pos (by omega)]
   simp
  refine ⟨gr, cR, cur, ⟨hblk, ⟨hh, by rw [jmat_length]; omega, fun i hi => ?_⟩, jmat_length _ _ _, hne, by simp, fun b hb' => ?_⟩, by rw [hblk.cell]; rfl, hbase⟩
  ·
   rw [jmat_length] at hi
   obtain ⟨A, c, h1, h2, _⟩ := hj.2 i hi
   exact ⟨A, L, c, (hget i hi).trans h1, by rw [jmat_get _ _ _ _ hi]; exact h2⟩
  ·
   simp only [List.mem_cons, List.not_mem_nil, or_false] at hb'
   subst hb'
   refine ⟨hge, fun i A k c hi hc g o e => ?_⟩
   obtain ⟨A', c', h1, _, h3⟩ := hj.2 i hi
   rw [hget i hi, h1] at hc
   injection hc with hc
   injection hc with a1 _ _
   subst a1
   exact (h3 g o e).1

set_option maxHeartbeats 4000000 in
theorem eliminate_any (A A' : Option Addr) (n c c' : Nat) (m right : List (List UInt8)) (w : World) (h : MS w A n c m) (h' : MS w A' n c' right) (hm : Rect m n) (hr : Rect right n) (hn : 0 < n) (hn64 : n ≤ 64) :
  Calls Tryz.prog 156 #[.slice A n c, .slice A' n c'] w (ElimRet (jmat m right n) n w) := by
 have HLm := Lib.hid h.1
 have HLr := Lib.hid h'.1
 have hneq := fun (W : World) (a : Option Addr) (n c n' c' : Nat) => run_neq_slice_nil_any (P := Tryz.prog) W 45 39 a n c n' c' Tryz.underlying45
 go_enter Tryz.func156, Tryz.ntmps156
 go_wp2
 go_loopw [13] (fun i wr => ∃ k : Nat, k ≤ n ∧ i = .int .i64 (k : Int) ∧ ElI m right w.heap.size (n + n) k w wr) (fun i _ => n - (intOf i).toNat)
 case atStart =>
  refine ⟨0, by omega, rfl, none, 0, [], Blk.new _ _ _, World.ownsRow_nil _ _ _ _, ⟨rfl, fun j hj => absurd hj (by omega)⟩, (Below.refl _ _).alloc (Nat.le_refl _) _, by simp⟩
 case round =>
  obtain ⟨k, hk, rfl, AR, cR, ps, hblk, hown, hjn, hb, hge⟩ := hrel
  by_cases hlt : k < n
  ·
   obtain ⟨ga, oa, A1, n1, c1, rfl, hca0, hra⟩ := h.at_ (Below.refl _ _) hlt
   obtain ⟨gb, ob, A2, n2, c2, rfl, hcb0, hrb⟩ := h'.at_ (Below.refl _ _) hlt
   obtain rfl : n1 = n := by rw [← hra.1, hm k (by rw [HLm.out]; exact hlt)]
   obtain rfl : n2 = n1 := by rw [← hrb.1, hr k (by rw [HLr.out]; exact hlt)]
   have hca := cell_kept hb hca0
   have hcb := cell_kept hb hcb0
   have hra1 := hra.kept hb
   have hrb1 := hrb.kept hb
   have HB := Lib.hid hb
   have HOWN := Lib.hid hown
   have HJ := Lib.hid hjn
   have HBLK := Lib.hid hblk
   have HRA := Lib.hid hra1
   have HRB := Lib.hid hrb1
   clear hb hown hjn hblk hra hrb hra1 hrb1 hca0 hcb0
   have HO0 : Hid ((wr.alloc (.cells #[] 5)).ownsRow wr.heap.size 5 1 (.slice (some ⟨wr.heap.size, 0, none⟩) 0 0) 0 (([] : List UInt8).map B)) :=
    Lib.hid (World.ownsRow_lit wr #[] 0 (Nat.le_refl _) (by simp [maxLen]) rfl)
   have HRA0 := Lib.hid (HRA.out.kept (w' := wr.alloc (.cells #[] 5)) ((Below.refl _ _).alloc (Nat.le_refl _) _))
   have ceR : wr.cell? ⟨w.heap.size, 0, none⟩ = some (.slice AR k cR) := by rw [HBLK.out.cell]; rfl
   have feR := HBLK.out.frozen 0
   have hb1' : ∀ (v1 : Value) (w1 : World), AppPost wr.heap.size 5 (.slice (some ⟨wr.heap.size, 0, none⟩) 0 0) 0 n2 (([] ++ gR m k).map B) v1 (wr.alloc (.cells #[] 5)) w1 → Below wr.heap.size wr w1 :=
    fun v1 w1 hp => ((Below.refl _ _).alloc (Nat.le_refl _) _).grown hp.2.1 (by simp) (by simp [Value.ownBlock])
   have HB1' := Lib.hid hb1'
   clear hb1'
   go_wp2_with (first
    | (at_builtin; refine wpList_appB _ rfl (.tmp 18) (.tmp 19) rfl wr.heap.size (.slice (some ⟨wr.heap.size, 0, none⟩) 0 0) 0 [] rfl HO0.out A1 n2 c1 (gR m k) rfl HRA0.out (by omega) (by simp) ?_; intro v1 w1 hp1; have hb1 := HB1'.out v1 w1 hp1; have hcb1 := cell_kept hb1 hcb; have HRB1 := Lib.hid (HRB.out.kept hb1); have HP1 := Lib.hid hp1; clear hp1)
    | (at_builtin; refine wpList_appB _ rfl (.tmp 23) (.tmp 27) rfl wr.heap.size v1 (0 + n2) ([] ++ gR m k) rfl HP1.out.1 A2 n2 c2 (gR right k) rfl HRB1.out (by omega) hb1.size ?_; intro v2 w2 hp2; have hb2 : Below wr.heap.size wr w2 := hb1.grown hp2.2.1 hb1.size (fun q hq => own_base HP1.out.1 q hq); have ceR2 := cell_kept hb2 ceR; have feR2 := (HBLK.out.kept hb2).frozen 0; obtain ⟨A3, c3, rfl, hbs2⟩ := BS.of_own hp2.1 (by unfold lim; omega); rw [Nat.zero_add] at hbs2; have HP2 := Lib.hid hp2; have HBS2 := Lib.hid hbs2; have hbz : Below w2.heap.size w2 (w2.alloc (.cells #[.slice A3 (n2 + n2) c3] 39)) := (Below.refl _ _).alloc (Nat.le_refl _) _; have HBZ := Lib.hid hbz; have HOW2 := Lib.hid (Kp.own (S := fun _ => False) ((Kp.of_below hb2).then hbz) HOWN.out (fun _ _ => id)); clear hp2 hbs2 hbz)
    | (at_builtin; refine wpList_app1 _ rfl (.tmp 33) (.tmp 35) 45 39 (.slice none 0 0) 24 Tryz.underlying45 infoBytes rfl rfl w.heap.size (.slice AR k cR) k ps rfl HOW2.out w2.heap.size 1 39 (.slice A3 (n2 + n2) c3) rfl (Blk.new w2 _ _) rfl (by omega) (by omega) (Nat.le_trans HB.out.size (Nat.le_trans hb2.size HBZ.out.size)) ?_; intro v4 w4 hp4; obtain ⟨g4, c4, rfl, hgb4⟩ := e8own_form hp4.1 (by omega); have hK4 : Kp (fun b => (Value.slice AR k cR).ownBlock = some b) (w2.alloc (.cells #[.slice A3 (n2 + n2) c3] 39)) w4 := (Kp.refl _ _).grown hp4.2.1 (fun _ e => .inl e); have bge : (Value.slice AR k cR).ownBlock ≠ some w.heap.size := own_ne HOWN.out HBLK.out (by decide); have HL4 := Lib.hid (hK4.blk ((HBLK.out.kept hb2).kept HBZ.out) bge); have ce4 : w4.cell? ⟨w.heap.size, 0, none⟩ = some (.slice AR k cR) := (HL4.out.cell 0).trans rfl; have fe4 := HL4.out.frozen 0; have HP4 := Lib.hid hp4; have HK4 := Lib.hid hK4; clear hp4 hK4 bge))
   have HR : Hid (ElI m right w.heap.size (n2 + n2) (k + 1) w (w4.setCell ⟨w.heap.size, 0, none⟩ (.slice (some ⟨g4, 0, none⟩) (k + 1) c4))) := by
    refine Lib.hid ⟨some ⟨g4, 0, none⟩, c4, ps ++ [.slice A3 (n2 + n2) c3], HL4.out.set_ 0 _, ?_, ⟨by rw [List.length_append, HJ.out.1]; rfl, fun j hj => ?_⟩, ?_, ?_⟩
    ·
     refine Kp.own (S := fun b => b = w.heap.size) (Kp.set (S := fun b => b = w.heap.size) (p := ⟨w.heap.size, 0, none⟩) (Kp.refl _ _) (.inl rfl) _) HP4.out.1 (fun g hg e => ?_)
     subst e
     exact own_ne HP4.out.1 HL4.out (by decide) hg
    ·
     by_cases hjk : j < k
     ·
      obtain ⟨A, c, h1, h2, h3⟩ := HJ.out.2 j hjk
      have h2' := (h2.kept hb2).kept HBZ.out
      have h4 : BS w4 A (n2 + n2) c (jrow m right j) := ⟨h2.1, h2.2.1, h2.2.2.1, fun i hi => by
       obtain ⟨g, o, e, hc⟩ := h2'.2.2.2 i hi
       exact ⟨g, o, e, HK4.out.cell hc (fun hS => (h3 g o e).2 hS)⟩⟩
      refine ⟨A, c, ?_, h4.store ce4 _, fun g o e => ⟨(h3 g o e).1, fun e4 => ?_⟩⟩
      ·
       rw [List.getElem?_append_left (by rw [HJ.out.1]; exact hjk)]; exact h1
      ·
       have e5 : g4 = g := by simpa [Value.ownBlock] using e4
       subst e5
       rcases HP4.out.2.2 with e6 | e6
       ·
        exact (h3 g4 o e).2 (e6.symm.trans rfl)
       ·
        obtain ⟨g', o', e7, hc⟩ := h2.2.2.2 0 (by omega)
        rw [e] at e7
        injection e7 with e7
        injection e7 with e7
        have hlt2 := cell_lt hc
        have hs := hb2.size
        simp only [Value.ownBlock] at e6
        injection e6 with e6
        simp at e6 hlt2
        omega
     ·
      obtain rfl : j = k := by omega
      have e0 : jrow m right j = [] ++ gR m j ++ gR right j := by simp [jrow]
      have hA3 : ∀ g o, A3 = some ⟨g, o, none⟩ → wr.heap.size ≤ g ∧ g < w2.heap.size := by
       intro g o e
       have := HP2.out.1.lt g (by rw [e]; rfl)
       exact this
      have h4 : BS w4 A3 (n2 + n2) c3 (jrow m right j) := by
       rw [e0]
       have h2' := HBS2.out.kept HBZ.out
       refine ⟨h2'.1, h2'.2.1, h2'.2.2.1, fun i hi => ?_⟩
       obtain ⟨g, o, e, hc⟩ := h2'.2.2.2 i hi
       refine ⟨g, o, e, HK4.out.cell hc (fun hS => ?_)⟩
       have h5 := HOWN.out.lt g hS
       have h6 := hA3 g o e
       omega
      refine ⟨A3, c3, by rw [List.getElem?_append_right (by rw [HJ.out.1]; exact Nat.le_refl _), HJ.out.1, Nat.sub_self]; rfl, h4.store ce4 _, fun g o e => ?_⟩
      have h6 := hA3 g o e
      refine ⟨by omega, fun e4 => ?_⟩
      have e5 : g4 = g := by simpa [Value.ownBlock] using e4
      subst e5
      rcases HP4.out.2.2 with e6 | e6
      ·
       have h5 := HOWN.out.lt g4 (e6.symm.trans rfl)
       omega
      ·
       simp only [Value.ownBlock] at e6
       injection e6 with e6
       simp at e6
       omega
    ·
     refine Below.setCell (B := w.heap.size) (p := ⟨w.heap.size, 0, none⟩) ?_ (Nat.le_refl _) _
     exact (below_thenB (below_thenB HB.out HB.out.size hb2) (Nat.le_trans HB.out.size hb2.size) HBZ.out).grown HP4.out.2.1 (Nat.le_trans HB.out.size (Nat.le_trans hb2.size HBZ.out.size)) (fun b hb' => own_base HOWN.out b hb')
    ·
     rw [World.size_setCell]
     have := HK4.out.size; have := HBZ.out.size; have := hb2.size; omega
   go_roundw
   case rel => exact ⟨k + 1, by omega, by go_num, HR.out⟩
   case measure => simp [intOf]; omega
  ·
   obtain rfl : k = n := by omega
   have hI : ElI m right w.heap.size (k + k) k w wr := ⟨AR, cR, ps, hblk, hown, hjn, hb, hge⟩
   obtain ⟨gr, cap, cs, hE, _, hgr⟩ := ElI_elim hI hn (by omega)
   have hR : Rect (jmat m right k) (k + k) := fun i hi => by
    rw [jmat_length] at hi
    rw [jmat_get _ _ _ _ hi]
    exact jrow_length m right k i hm hr (by rw [HLm.out]; exact hi) (by rw [HLr.out]; exact hi)
   have HC := Lib.hid (ncols_eq hm (by rw [HLm.out]; exact hn))
   have hw := h.kept hb
   have HB := Lib.hid hb
   have HE := Lib.hid hE
   clear hblk hown hjn hb hI hE
   go_wp2_with fail
   refine (columns_any A k c m _ hw).mono ?_
   rintro e w' ⟨rfl, rfl⟩
   rw [HC.out]
   go_wp2_with fail
   refine (reduce_any w.heap.size gr k cap 1 cs (jmat m right k) (k + k) k _ HE.out hR (by omega) (by omega) (by omega)).mono ?_
   rintro e w5 ⟨rfl, m5, np, Ap, cp, pr, cs5, F, hred, hE5, hR5, hnp, hK5⟩
   have HR5 : Hid (ElimRet (jmat m right k) k w (.returned (.pointer (some ⟨w.heap.size, 0, none⟩))) w5) :=
    Lib.hid ⟨w.heap.size, gr, cap, m5, np, Ap, cp, pr, cs5, F, rfl, hred, hE5, hR5, hnp, HB.out.trans (hK5.below HB.out.size (fun b hb' => by rcases hb' with rfl | rfl <;> omega))⟩
   clear hred hE5 hR5 hK5
   go_wp2
   go_ret
   exact HR5.out
end Go.Proofs.YtfcakjpljjnjnaaGreatDoor
