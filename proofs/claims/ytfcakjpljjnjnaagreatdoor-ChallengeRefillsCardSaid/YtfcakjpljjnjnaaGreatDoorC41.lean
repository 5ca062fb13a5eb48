/- Several texts in one: Bi, Tk9. -/
import Derived.Test.YtfcakjpljjnjnaaGreatDoorC40
import Derived.Test.YtfcakjpljjnjnaaGreatDoorC22
/- stripe.Rebuild. -/
namespace Go.Proofs.YtfcakjpljjnjnaaGreatDoor
open Go Go.RowKit Go.Shelf Gf Sha

def peN : Pe := ⟨[], 0, [], []⟩
theorem rPe_nil (w : World) : rPe w peZ peN := ⟨none, 0, 0, none, 0, 0, rfl, BS.nil, TS.nil, by decide, wfI_of (by show (-9223372036854775808 : Int) ≤ 0; omega) (by show (0 : Int) < 9223372036854775808; omega)⟩
/-- What Rebuild returns: its error, its piece. -/
def rebE (s : Sp) (ps : List Pe) (i : Int) : Int × Pe :=
 if spB s = true ∧ 0 ≤ i ∧ i < s.t then (if (resE s ps).1 = 0 then (0, (resE s ps).2.getD i.toNat peN) else ((resE s ps).1, peN)) else (1, peN)
theorem encM_length (d t : Nat) (m : List (List UInt8)) (L : Nat) : (encM d t m L).length = t := by
 unfold encM
 rw [cmat_length]
 simp [ofM]
/-- What restore returns for a stripe, if it returns no error. -/
theorem resE_ok {s : Sp} {ps : List Pe} (hv : spB s = true) (h : (resE s ps).1 = 0) : ∃ rows L, (resE s ps).2 = pcsL rows ∧ (rows.length : Int) = s.t ∧ Rect rows L ∧ 1 ≤ L ∧ L ≤ 65536 := by
 have hcd := (spB_spec hv).2.1
 have hd8 : 0 ≤ s.d := by have h9 := hcd; unfold cdB at h9; simp only [Bool.and_eq_true, decide_eq_true_eq] at h9; omega
 have hok := TkOk.run ps (TkOk.nil hd8)
 obtain ⟨st, hst⟩ : ∃ st, st = tkR s ([], []) ps := ⟨_, rfl⟩
 rw [← hst] at hok
 unfold resE at h ⊢
 simp only [← hst] at h ⊢
 split at h
 ·
  exact absurd h (by decide)
 rename_i h0
 rw [if_neg h0]
 obtain ⟨_, e1, e2, e3, GV⟩ := hok.gvn hcd (by have := hok.le; omega)
 split at h
 ·
  rename_i h1
  rw [if_pos h1]
  split at h
  ·
   rename_i h2
   rw [if_pos h2]
   have hr := recM_rect GV.rect (z := st.1.map Int.toNat) (d := s.d.toNat) (by rw [GV.zl]; exact Nat.le_refl _) (by rw [GV.ml]; exact Nat.le_refl _)
   refine ⟨_, s.b.toNat, rfl, by rw [encM_length]; exact e2.symm, ?_, GV.L1, GV.L6⟩
   rw [encM_eq hr (by rw [recM_length]; exact Nat.le_refl _)]
   exact rencM_rect _ _ _ _
  ·
   exact absurd h (by decide)
 ·
  exact absurd h (by decide)
theorem pcsL_at {rows : List (List UInt8)} {j : Nat} {y : Pe} (h : (pcsL rows)[j]? = some y) : j < rows.length ∧ y = pieN rows j := by
 unfold pcsL at h
 rw [List.getElem?_map] at h
 obtain ⟨hj, _⟩ := List.getElem?_eq_some_iff.1 (Option.map_eq_some_iff.1 h).choose_spec.1
 rw [List.length_range] at hj
 rw [List.getElem?_range hj] at h
 injection h with h
 exact ⟨hj, h.symm⟩
/-- A block of a zero piece holds no bytes and no sums: a store to it changes no piece. -/
theorem pe_store {w w' : World} {g : Nat} {t : TypeId} {cs : List Value} {y : Pe} (h : rPe w cs y) (hs : ∀ x ∈ y.sm, x.length = 32) (hb : BL w g t peZ) (hk : Kp (fun b => b = g) w w') : rPe w' cs y := by
 have hin : ∀ {k : Nat} {v : Value}, w.cell? ⟨g, k, none⟩ = some v → v = .string (strB []) ∨ v = .int .i64 0 ∨ v = .slice none 0 0 := fun {k v} hv => by
  rw [Blk.cell hb] at hv
  have h9 := List.mem_of_getElem? (by simpa using hv : peZ[k]? = some v)
  simp only [peZ, List.mem_cons, List.not_mem_nil, or_false] at h9
  rcases h9 with h9 | h9 | h9 | h9 <;> simp [h9]
 obtain ⟨A, n, c, B', m, d, rfl, hbs, hts, r⟩ := h
 refine ⟨A, n, c, B', m, d, rfl, ⟨hbs.1, hbs.2.1, hbs.2.2.1, fun k hk9 => ?_⟩, ⟨hts.1, hts.2.1, hts.2.2.1, fun k hk9 => ?_⟩, r⟩
 ·
  obtain ⟨g', o, e, hc⟩ := hbs.2.2.2 k hk9
  refine ⟨g', o, e, hk.cell hc (fun e2 => ?_)⟩
  have e3 : g' = g := e2
  subst e3
  rcases hin hc with h9 | h9 | h9 <;> cases h9
 ·
  obtain ⟨g', o, e, hc⟩ := hts.2.2.2 k hk9
  refine ⟨g', o, e, hk.cell hc (fun e2 => ?_)⟩
  have e3 : g' = g := e2
  subst e3
  rcases hin hc with h9 | h9 | h9
  ·
   injection h9 with h9
   have hk8 : k < y.sm.length := by rw [hts.1]; exact hk9
   have h8 := hs _ (List.getElem_mem hk8)
   rw [gR_eq hk8] at h9
   have h7 := congrArg ByteArray.size h9
   rw [strB_size, strB_size, h8] at h7
   cases h7
  ·
   cases h9
  ·
   cases h9
theorem resE_err (s : Sp) (ps : List Pe) : (resE s ps).1 = 0 ∨ (resE s ps).1 = 9 ∨ (resE s ps).1 = 10 := by
 unfold resE
 simp only
 split
 ·
  exact .inr (.inr rfl)
 ·
  split
  ·
   split
   ·
    exact .inl rfl
   ·
    exact .inr (.inl rfl)
  ·
   exact .inr (.inl rfl)
theorem bldPe0 (w : World) : (Instr.build 48 #[]).run Tryz.prog w = .ok (.agg peZ.toArray) w := by kernel_rfl
theorem peZ_one : ∀ v ∈ peZ, v.oneCell' = true := fun v hv => one_pe peN none 0 0 none 0 0 v hv
def RebR (s : Sp) (ps : List Pe) (i : Int) (w : World) (e : Ending) (w' : World) : Prop := ∃ pc, e = .returned (.tuple #[.agg pc.toArray, .int .i64 (rebE s ps i).1]) ∧ rPe w' pc (rebE s ps i).2 ∧ Below w.heap.size w w'
section
set_option maxRecDepth 100000
set_option maxHeartbeats 8000000
theorem rebuild_any (cs : List Value) (s : Sp) (A : Option Addr) (n c : Nat) (ps : List Pe) (i : Int) (w : World) (hs : rSp w cs s) (hp : LS rPe 4 72 w A n c ps) (hT : Tabs w) (hn : n ≤ 1000) :
  Calls Tryz.prog 24 #[.agg cs.toArray, .slice A n c, .int .i64 i] w (RebR s ps i w) := by
 have HSP := Lib.hid hs
 have HP := Lib.hid hp
 have HT := Lib.hid hT
 have HN := Lib.hid hn
 obtain ⟨R, rn, e, rfl, _⟩ := hs
 clear hp hT hn
 cases hv : spB s with
 | false =>
  have HCK : Hid (chkE (spB s) = 1) := Lib.hid (by rw [hv]; rfl)
  have HR : Hid (rebE s ps i = (1, peN)) := Lib.hid (by unfold rebE; rw [if_neg (by rw [hv]; rintro ⟨h, _⟩; cases h)])
  clear hv
  go_enter Tryz.func24, Tryz.ntmps24
  go_wp2_with (first
   | ((with_reducible show OpW 3); refine wpList_box _ rfl 26 (.tmp 0) rfl (spC s R rn e) rfl ?_; intro w1 y1 y2 y3; have HV1 := Lib.hid y1; have HB1 := Lib.hid y2; clear y1 y2 y3)
   | ((with_reducible show OpW 6); refine wpList_alloc _ rfl 48 rfl peZ peZero ?_; intro w2 a1 a2 a3; have HG2 := Lib.hid a1; have HB2 := Lib.hid (below_then HB1.out a2); have HV2 := Lib.hid (HV1.out.kept a2); have HSZ := Lib.hid (show w.heap.size ≤ w1.heap.size from HB1.out.size); have p4 := BL.get (j := 4) (HV1.out.kept a2) rfl; clear a1 a2 a3)
   | ((with_reducible show OpW 11); refine wpList_loadv _ rfl 26 (.tmp 3) rfl 6 (by kernel_rfl) w.heap.size 0 (spC s R rn e) rfl (BL.all HV2.out) rfl ?_)
   | (go_at_call 45; refine (spCheck_any _ s w2 (stay_sp _ _ _ _ HSP.out HB2.out)).mono ?_; rintro e9 w3 ⟨rfl, r2⟩; rw [HCK.out]; have HB3 := Lib.hid (below_then HB2.out r2); have HV3 := Lib.hid (HV2.out.kept r2); have HG3 := Lib.hid (HG2.out.kept r2); have p4 := cell_kept r2 p4; clear r2)
   | ((with_reducible show OpW 24); refine wpList_build _ rfl 48 #[] rfl #[] (by rfl) (.agg peZ.toArray) (bldPe0 _) ?_)
   | ((with_reducible show OpN); refine wpList_storev _ rfl 48 (.tmp 6) (.tmp 24) rfl 4 (by kernel_rfl) w1.heap.size 0 _ peZ peZ rfl rfl HG3.out rfl peZ_one (by decide) ?_; intro w4 a1 a2 a3; have HG4 : Hid (BL w4 w1.heap.size 48 peZ) := Lib.hid a1; have HB4 : Hid (Below w.heap.size w w4) := Lib.hid (low_kp HB3.out a2 (fun i hi e => by have := HSZ.out; omega)); clear a1 a2 a3))
  (try simp only [Exit.inBlock, Exit.then])
  exact bodyPost_ret (results_at2 w4 Tryz.results24 (n := 4) (by kernel_rfl) (g := w1.heap.size) (o := 0) rfl (ms := peZ) (BL.all HG4.out) rfl) rfl ⟨peZ, by rw [HR.out]; rfl, by rw [HR.out]; exact rPe_nil _, HB4.out⟩
 | true =>
  have HCK : Hid (chkE (spB s) = 0) := Lib.hid (by rw [hv]; rfl)
  have HVB := Lib.hid hv
  cases c1 : decide (i < 0) with
  | true =>
   have HR : Hid (rebE s ps i = (1, peN)) := Lib.hid (by unfold rebE; rw [if_neg (by rintro ⟨_, h, _⟩; have := of_decide_eq_true c1; omega)])
   clear hv
   go_enter Tryz.func24, Tryz.ntmps24
   go_wp2_with (first
    | ((with_reducible show OpW 3); refine wpList_box _ rfl 26 (.tmp 0) rfl (spC s R rn e) rfl ?_; intro w1 y1 y2 y3; have HV1 := Lib.hid y1; have HB1 := Lib.hid y2; clear y1 y2 y3)
    | ((with_reducible show OpW 6); refine wpList_alloc _ rfl 48 rfl peZ peZero ?_; intro w2 a1 a2 a3; have HG2 := Lib.hid a1; have HB2 := Lib.hid (below_then HB1.out a2); have HV2 := Lib.hid (HV1.out.kept a2); have HSZ := Lib.hid (show w.heap.size ≤ w1.heap.size from HB1.out.size); have p4 := BL.get (j := 4) (HV1.out.kept a2) rfl; clear a1 a2 a3)
    | ((with_reducible show OpW 11); refine wpList_loadv _ rfl 26 (.tmp 3) rfl 6 (by kernel_rfl) w.heap.size 0 (spC s R rn e) rfl (BL.all HV2.out) rfl ?_)
    | (go_at_call 45; refine (spCheck_any _ s w2 (stay_sp _ _ _ _ HSP.out HB2.out)).mono ?_; rintro e9 w3 ⟨rfl, r2⟩; rw [HCK.out]; have HB3 := Lib.hid (below_then HB2.out r2); have HV3 := Lib.hid (HV2.out.kept r2); have HG3 := Lib.hid (HG2.out.kept r2); have p4 := cell_kept r2 p4; clear r2)
    | ((with_reducible show OpW 24); refine wpList_build _ rfl 48 #[] rfl #[] (by rfl) (.agg peZ.toArray) (bldPe0 _) ?_)
    | ((with_reducible show OpN); refine wpList_storev _ rfl 48 (.tmp 6) (.tmp 24) rfl 4 (by kernel_rfl) w1.heap.size 0 _ peZ peZ rfl rfl HG3.out rfl peZ_one (by decide) ?_; intro w4 a1 a2 a3; have HG4 : Hid (BL w4 w1.heap.size 48 peZ) := Lib.hid a1; have HB4 : Hid (Below w.heap.size w w4) := Lib.hid (low_kp HB3.out a2 (fun i hi e => by have := HSZ.out; omega)); clear a1 a2 a3))
   (try simp only [Exit.inBlock, Exit.then])
   exact bodyPost_ret (results_at2 w4 Tryz.results24 (n := 4) (by kernel_rfl) (g := w1.heap.size) (o := 0) rfl (ms := peZ) (BL.all HG4.out) rfl) rfl ⟨peZ, by rw [HR.out]; rfl, by rw [HR.out]; exact rPe_nil _, HB4.out⟩
  | false =>
   cases c2 : decide (i ≥ s.t) with
   | true =>
    have HR : Hid (rebE s ps i = (1, peN)) := Lib.hid (by unfold rebE; rw [if_neg (by rintro ⟨_, _, h⟩; have := of_decide_eq_true c2; omega)])
    clear hv
    go_enter Tryz.func24, Tryz.ntmps24
    go_wp2_with (first
     | ((with_reducible show OpW 3); refine wpList_box _ rfl 26 (.tmp 0) rfl (spC s R rn e) rfl ?_; intro w1 y1 y2 y3; have HV1 := Lib.hid y1; have HB1 := Lib.hid y2; clear y1 y2 y3)
     | ((with_reducible show OpW 6); refine wpList_alloc _ rfl 48 rfl peZ peZero ?_; intro w2 a1 a2 a3; have HG2 := Lib.hid a1; have HB2 := Lib.hid (below_then HB1.out a2); have HV2 := Lib.hid (HV1.out.kept a2); have HSZ := Lib.hid (show w.heap.size ≤ w1.heap.size from HB1.out.size); have p4 := BL.get (j := 4) (HV1.out.kept a2) rfl; clear a1 a2 a3)
     | ((with_reducible show OpW 11); refine wpList_loadv _ rfl 26 (.tmp 3) rfl 6 (by kernel_rfl) w.heap.size 0 (spC s R rn e) rfl (BL.all HV2.out) rfl ?_)
     | (go_at_call 45; refine (spCheck_any _ s w2 (stay_sp _ _ _ _ HSP.out HB2.out)).mono ?_; rintro e9 w3 ⟨rfl, r2⟩; rw [HCK.out]; have HB3 := Lib.hid (below_then HB2.out r2); have HV3 := Lib.hid (HV2.out.kept r2); have HG3 := Lib.hid (HG2.out.kept r2); have p4 := cell_kept r2 p4; clear r2)
     | ((with_reducible show OpW 24); refine wpList_build _ rfl 48 #[] rfl #[] (by rfl) (.agg peZ.toArray) (bldPe0 _) ?_)
     | ((with_reducible show OpN); refine wpList_storev _ rfl 48 (.tmp 6) (.tmp 24) rfl 4 (by kernel_rfl) w1.heap.size 0 _ peZ peZ rfl rfl HG3.out rfl peZ_one (by decide) ?_; intro w4 a1 a2 a3; have HG4 : Hid (BL w4 w1.heap.size 48 peZ) := Lib.hid a1; have HB4 : Hid (Below w.heap.size w w4) := Lib.hid (low_kp HB3.out a2 (fun i hi e => by have := HSZ.out; omega)); clear a1 a2 a3))
    (try simp only [Exit.inBlock, Exit.then])
    exact bodyPost_ret (results_at2 w4 Tryz.results24 (n := 4) (by kernel_rfl) (g := w1.heap.size) (o := 0) rfl (ms := peZ) (BL.all HG4.out) rfl) rfl ⟨peZ, by rw [HR.out]; rfl, by rw [HR.out]; exact rPe_nil _, HB4.out⟩
   | false =>
    have HRE : Hid (rebE s ps i = if (resE s ps).1 = 0 then (0, (resE s ps).2.getD i.toNat peN) else ((resE s ps).1, peN)) := Lib.hid (by unfold rebE; rw [if_pos ⟨hv, by have := of_decide_eq_false c1; omega, by have := of_decide_eq_false c2; omega⟩])
    have i0 := of_decide_eq_false c1
    have i1 := of_decide_eq_false c2
    have ht16 : s.t ≤ 16 := by have h9 := (spB_spec hv).2.1; unfold cdB at h9; simp only [Bool.and_eq_true, decide_eq_true_eq] at h9; omega
    rcases resE_err s ps with h | h | h
    ·
     have HE := Lib.hid h
     obtain ⟨j, rfl⟩ : ∃ j : Nat, i = (j : Int) := ⟨i.toNat, by omega⟩
     obtain ⟨L, hL⟩ : ∃ L, L = (resE s ps).2 := ⟨_, rfl⟩
     obtain ⟨rows, W, hrow, hrt, hrect, _, hW⟩ := resE_ok hv h
     rw [← hL] at hrow
     have hll : L.length = s.t.toNat := by rw [hrow]; simp [pcsL]; omega
     have HLV : Hid (∀ y, L[j]? = some y → ∀ x ∈ y.sm, x.length = 32) := Lib.hid (fun y hy => by
      rw [hrow] at hy
      rw [(pcsL_at hy).2]
      exact sums_lv (rect_le hrect hW))
     have HR : Hid (rebE s ps (j : Int) = (0, L.getD j peN)) := Lib.hid (by rw [HRE.out, if_pos h, ← hL]; rfl)
     have hjl : j < L.length := by omega
     have hlim : L.length ≤ 16 := by omega
     have HL := Lib.hid hL
     clear hll HRE h hL hv hrow hrt hrect hW
     go_enter Tryz.func24, Tryz.ntmps24
     go_wp2_with (first
      | ((with_reducible show OpW 3); refine wpList_box _ rfl 26 (.tmp 0) rfl (spC s R rn e) rfl ?_; intro w1 y1 y2 y3; have HV1 := Lib.hid y1; have HB1 := Lib.hid y2; clear y1 y2 y3)
      | ((with_reducible show OpW 6); refine wpList_alloc _ rfl 48 rfl peZ peZero ?_; intro w2 a1 a2 a3; have HG2 := Lib.hid a1; have HB2 := Lib.hid (below_then HB1.out a2); have HV2 := Lib.hid (HV1.out.kept a2); have HSZ := Lib.hid (show w.heap.size ≤ w1.heap.size from HB1.out.size); have p4 := BL.get (j := 4) (HV1.out.kept a2) rfl; clear a1 a2 a3)
      | ((with_reducible show OpW 11); refine wpList_loadv _ rfl 26 (.tmp 3) rfl 6 (by kernel_rfl) w.heap.size 0 (spC s R rn e) rfl (BL.all HV2.out) rfl ?_)
      | (go_at_call 45; refine (spCheck_any _ s w2 (stay_sp _ _ _ _ HSP.out HB2.out)).mono ?_; rintro e9 w3 ⟨rfl, r2⟩; rw [HCK.out]; have HB3 := Lib.hid (below_then HB2.out r2); have HV3 := Lib.hid (HV2.out.kept r2); have HG3 := Lib.hid (HG2.out.kept r2); have p4 := cell_kept r2 p4; clear r2)
      | ((with_reducible show OpW 26); refine wpList_loadv _ rfl 26 (.tmp 3) rfl 6 (by kernel_rfl) w.heap.size 0 (spC s R rn e) rfl (BL.all HV3.out) rfl ?_)
      | (go_at_call 46; refine (restore_any _ s A n c ps w3 (stay_sp _ _ _ _ HSP.out HB3.out) HVB.out (HP.out.kept stay_pe HB3.out) (HT.out.kept HB3.out) HN.out).mono ?_; rintro e9 w4 ⟨v1, v2, rfl, hol, r2⟩; rw [HE.out]; have hol := hol HE.out; rw [← HL.out] at hol; obtain ⟨A4, c4, e4, h4⟩ := hol.ls (b := 72) (by unfold lim; omega); subst e4; obtain ⟨y, g, o, cy, hy, ea, hat, hry⟩ := h4.at_ stay_pe (Below.refl _ _) hjl; subst ea; have HAT := Lib.hid hat; have HRY := Lib.hid hry; have HY := Lib.hid hy; obtain ⟨A9, n9, c9, B9, m9, d9, rfl, _⟩ := hry; clear hat h4 hy; have HB4 := Lib.hid (below_then HB3.out r2); have HG4 := Lib.hid (HG3.out.kept r2); clear r2 hol)
      | ((with_reducible show OpW 39); refine wpList_loadv _ rfl 48 (.tmp 38) rfl 4 (by kernel_rfl) g (o + j * 4) (peC y A9 n9 c9 B9 m9 d9) (by go_simp) HAT.out rfl ?_) | ((with_reducible show OpN); refine wpList_storev _ rfl 48 (.tmp 6) (.tmp 39) rfl 4 (by kernel_rfl) w1.heap.size 0 _ peZ (peC y A9 n9 c9 B9 m9 d9) rfl rfl HG4.out rfl (one_pe y A9 n9 c9 B9 m9 d9) (by decide) ?_; intro w5 a1 a2 a3; have HG5 : Hid (BL w5 w1.heap.size 48 (peC y A9 n9 c9 B9 m9 d9)) := Lib.hid a1; have HB5 : Hid (Below w.heap.size w w5) := Lib.hid (low_kp HB4.out a2 (fun i hi e => by have := HSZ.out; omega)); have HK5 := Lib.hid a2; clear a1 a2 a3))
     (try simp only [Exit.inBlock, Exit.then])
     exact bodyPost_ret (results_at2 w5 Tryz.results24 (n := 4) (by kernel_rfl) (g := w1.heap.size) (o := 0) rfl (ms := peC y A9 n9 c9 B9 m9 d9) (BL.all HG5.out) rfl) rfl ⟨peC y A9 n9 c9 B9 m9 d9, by rw [HR.out]; rfl, by rw [HR.out]; show rPe w5 _ (L.getD j peN); rw [List.getD_eq_getElem?_getD, HY.out]; exact pe_store HRY.out (HLV.out y HY.out) HG4.out HK5.out, HB5.out⟩
    ·
     have HE := Lib.hid h
     have HR : Hid (rebE s ps i = (9, peN)) := Lib.hid (by rw [HRE.out, if_neg (by rw [h]; decide), h])
     clear HRE h hv
     go_enter Tryz.func24, Tryz.ntmps24
     go_wp2_with (first
      | ((with_reducible show OpW 3); refine wpList_box _ rfl 26 (.tmp 0) rfl (spC s R rn e) rfl ?_; intro w1 y1 y2 y3; have HV1 := Lib.hid y1; have HB1 := Lib.hid y2; clear y1 y2 y3)
      | ((with_reducible show OpW 6); refine wpList_alloc _ rfl 48 rfl peZ peZero ?_; intro w2 a1 a2 a3; have HG2 := Lib.hid a1; have HB2 := Lib.hid (below_then HB1.out a2); have HV2 := Lib.hid (HV1.out.kept a2); have HSZ := Lib.hid (show w.heap.size ≤ w1.heap.size from HB1.out.size); have p4 := BL.get (j := 4) (HV1.out.kept a2) rfl; clear a1 a2 a3)
      | ((with_reducible show OpW 11); refine wpList_loadv _ rfl 26 (.tmp 3) rfl 6 (by kernel_rfl) w.heap.size 0 (spC s R rn e) rfl (BL.all HV2.out) rfl ?_)
      | (go_at_call 45; refine (spCheck_any _ s w2 (stay_sp _ _ _ _ HSP.out HB2.out)).mono ?_; rintro e9 w3 ⟨rfl, r2⟩; rw [HCK.out]; have HB3 := Lib.hid (below_then HB2.out r2); have HV3 := Lib.hid (HV2.out.kept r2); have HG3 := Lib.hid (HG2.out.kept r2); have p4 := cell_kept r2 p4; clear r2)
      | ((with_reducible show OpW 26); refine wpList_loadv _ rfl 26 (.tmp 3) rfl 6 (by kernel_rfl) w.heap.size 0 (spC s R rn e) rfl (BL.all HV3.out) rfl ?_)
      | (go_at_call 46; refine (restore_any _ s A n c ps w3 (stay_sp _ _ _ _ HSP.out HB3.out) HVB.out (HP.out.kept stay_pe HB3.out) (HT.out.kept HB3.out) HN.out).mono ?_; rintro e9 w4 ⟨v1, v2, rfl, hol, r2⟩; rw [HE.out]; skip; have HB4 := Lib.hid (below_then HB3.out r2); have HG4 := Lib.hid (HG3.out.kept r2); clear r2 hol)
      | ((with_reducible show OpW 34); refine wpList_build _ rfl 48 #[] rfl #[] (by rfl) (.agg peZ.toArray) (bldPe0 _) ?_) | ((with_reducible show OpN); refine wpList_storev _ rfl 48 (.tmp 6) (.tmp 34) rfl 4 (by kernel_rfl) w1.heap.size 0 _ peZ peZ rfl rfl HG4.out rfl peZ_one (by decide) ?_; intro w5 a1 a2 a3; have HG5 : Hid (BL w5 w1.heap.size 48 peZ) := Lib.hid a1; have HB5 : Hid (Below w.heap.size w w5) := Lib.hid (low_kp HB4.out a2 (fun i hi e => by have := HSZ.out; omega)); clear a1 a2 a3))
     (try simp only [Exit.inBlock, Exit.then])
     exact bodyPost_ret (results_at2 w5 Tryz.results24 (n := 4) (by kernel_rfl) (g := w1.heap.size) (o := 0) rfl (ms := peZ) (BL.all HG5.out) rfl) rfl ⟨peZ, by rw [HR.out]; rfl, by rw [HR.out]; exact rPe_nil _, HB5.out⟩
    ·
     have HE := Lib.hid h
     have HR : Hid (rebE s ps i = (10, peN)) := Lib.hid (by rw [HRE.out, if_neg (by rw [h]; decide), h])
     clear HRE h hv
     go_enter Tryz.func24, Tryz.ntmps24
     go_wp2_with (first
      | ((with_reducible show OpW 3); refine wpList_box _ rfl 26 (.tmp 0) rfl (spC s R rn e) rfl ?_; intro w1 y1 y2 y3; have HV1 := Lib.hid y1; have HB1 := Lib.hid y2; clear y1 y2 y3)
      | ((with_reducible show OpW 6); refine wpList_alloc _ rfl 48 rfl peZ peZero ?_; intro w2 a1 a2 a3; have HG2 := Lib.hid a1; have HB2 := Lib.hid (below_then HB1.out a2); have HV2 := Lib.hid (HV1.out.kept a2); have HSZ := Lib.hid (show w.heap.size ≤ w1.heap.size from HB1.out.size); have p4 := BL.get (j := 4) (HV1.out.kept a2) rfl; clear a1 a2 a3)
      | ((with_reducible show OpW 11); refine wpList_loadv _ rfl 26 (.tmp 3) rfl 6 (by kernel_rfl) w.heap.size 0 (spC s R rn e) rfl (BL.all HV2.out) rfl ?_)
      | (go_at_call 45; refine (spCheck_any _ s w2 (stay_sp _ _ _ _ HSP.out HB2.out)).mono ?_; rintro e9 w3 ⟨rfl, r2⟩; rw [HCK.out]; have HB3 := Lib.hid (below_then HB2.out r2); have HV3 := Lib.hid (HV2.out.kept r2); have HG3 := Lib.hid (HG2.out.kept r2); have p4 := cell_kept r2 p4; clear r2)
      | ((with_reducible show OpW 26); refine wpList_loadv _ rfl 26 (.tmp 3) rfl 6 (by kernel_rfl) w.heap.size 0 (spC s R rn e) rfl (BL.all HV3.out) rfl ?_)
      | (go_at_call 46; refine (restore_any _ s A n c ps w3 (stay_sp _ _ _ _ HSP.out HB3.out) HVB.out (HP.out.kept stay_pe HB3.out) (HT.out.kept HB3.out) HN.out).mono ?_; rintro e9 w4 ⟨v1, v2, rfl, hol, r2⟩; rw [HE.out]; skip; have HB4 := Lib.hid (below_then HB3.out r2); have HG4 := Lib.hid (HG3.out.kept r2); clear r2 hol)
      | ((with_reducible show OpW 34); refine wpList_build _ rfl 48 #[] rfl #[] (by rfl) (.agg peZ.toArray) (bldPe0 _) ?_) | ((with_reducible show OpN); refine wpList_storev _ rfl 48 (.tmp 6) (.tmp 34) rfl 4 (by kernel_rfl) w1.heap.size 0 _ peZ peZ rfl rfl HG4.out rfl peZ_one (by decide) ?_; intro w5 a1 a2 a3; have HG5 : Hid (BL w5 w1.heap.size 48 peZ) := Lib.hid a1; have HB5 : Hid (Below w.heap.size w w5) := Lib.hid (low_kp HB4.out a2 (fun i hi e => by have := HSZ.out; omega)); clear a1 a2 a3))
     (try simp only [Exit.inBlock, Exit.then])
     exact bodyPost_ret (results_at2 w5 Tryz.results24 (n := 4) (by kernel_rfl) (g := w1.heap.size) (o := 0) rfl (ms := peZ) (BL.all HG5.out) rfl) rfl ⟨peZ, by rw [HR.out]; rfl, by rw [HR.out]; exact rPe_nil _, HB5.out⟩
end
end Go.Proofs.YtfcakjpljjnjnaaGreatDoor
/- The law's small and same; Nonce, Answer and Tokens, of the program and of the reference, for all arguments. -/
namespace Go.Proofs.YtfcakjpljjnjnaaGreatDoor
open Go Go.RowKit Gf Sha

set_option maxRecDepth 100000 in
set_option maxHeartbeats 1000000 in
theorem small_any (Kx : Ky) (s : List UInt8) (i : Int) (A : Option Addr) (n c : Nat) (w : World) :
  Calls Tryz.prog 6 #[Kx.val, .agg #[.string (strB s), .int .i64 i], .slice A n c] w fun e w' => ∃ b, e = .returned (.bool b) ∧ Below w.heap.size w w' := by
 obtain ⟨X1, x1⟩ : ∃ X, IntKind.i64.wrap (((strB Kx.nm).size : Int) + ((strB Kx.st).size : Int)) = X := ⟨_, rfl⟩
 obtain ⟨X2, x2⟩ : ∃ X, IntKind.i64.wrap (X1 + ((strB Kx.ck).size : Int)) = X := ⟨_, rfl⟩
 obtain ⟨X3, x3⟩ : ∃ X, IntKind.i64.wrap (X2 + ((strB Kx.ix).size : Int)) = X := ⟨_, rfl⟩
 obtain ⟨X4, x4⟩ : ∃ X, IntKind.i64.wrap (X3 + ((strB Kx.tk).size : Int)) = X := ⟨_, rfl⟩
 by_cases h4 : X4 ≤ 400
 ·
  have d4 : decide (X4 ≤ 400) = true := decide_eq_true h4
  clear h4
  by_cases h5 : ((strB s).size : Int) ≤ 64
  ·
   have d5 : decide (((strB s).size : Int) ≤ 64) = true := decide_eq_true h5
   clear h5
   go_enter Tryz.func6, Tryz.ntmps6
   go_wp2_with (first
    | ((with_reducible show OpW 3); refine wpList_box _ rfl 23 (.tmp 0) rfl Kx.cells rfl ?_; intro w1 a1 a2 a3; have HG1 := Lib.hid a1; have HB1 := Lib.hid a2; clear a1 a2 a3)
    | ((with_reducible show OpW 4); refine wpList_box _ rfl 31 (.tmp 1) rfl [.string (strB s), .int .i64 i] rfl ?_; intro w2 a1 a2 a3; have HG2 := HG1.out.kept a2; have HB2 := Lib.hid (below_then HB1.out (a2.mono (Nat.le_refl _))); have q0 := BL.get HG2 (j := 0) rfl; have q1 := BL.get HG2 (j := 1) rfl; have q2 := BL.get HG2 (j := 2) rfl; have q3 := BL.get HG2 (j := 3) rfl; have q4 := BL.get HG2 (j := 4) rfl; have p0 := BL.get a1 (j := 0) rfl; clear a1 a2 a3 HG2))
   go_ret
   exact ⟨_, rfl, HB2.out⟩
  ·
   have d5 : decide (((strB s).size : Int) ≤ 64) = false := decide_eq_false h5
   clear h5
   go_enter Tryz.func6, Tryz.ntmps6
   go_wp2_with (first
    | ((with_reducible show OpW 3); refine wpList_box _ rfl 23 (.tmp 0) rfl Kx.cells rfl ?_; intro w1 a1 a2 a3; have HG1 := Lib.hid a1; have HB1 := Lib.hid a2; clear a1 a2 a3)
    | ((with_reducible show OpW 4); refine wpList_box _ rfl 31 (.tmp 1) rfl [.string (strB s), .int .i64 i] rfl ?_; intro w2 a1 a2 a3; have HG2 := HG1.out.kept a2; have HB2 := Lib.hid (below_then HB1.out (a2.mono (Nat.le_refl _))); have q0 := BL.get HG2 (j := 0) rfl; have q1 := BL.get HG2 (j := 1) rfl; have q2 := BL.get HG2 (j := 2) rfl; have q3 := BL.get HG2 (j := 3) rfl; have q4 := BL.get HG2 (j := 4) rfl; have p0 := BL.get a1 (j := 0) rfl; clear a1 a2 a3 HG2))
   go_ret
   exact ⟨_, rfl, HB2.out⟩
 ·
  have d4 : decide (X4 ≤ 400) = false := decide_eq_false h4
  clear h4
  go_enter Tryz.func6, Tryz.ntmps6
  go_wp2_with (first
   | ((with_reducible show OpW 3); refine wpList_box _ rfl 23 (.tmp 0) rfl Kx.cells rfl ?_; intro w1 a1 a2 a3; have HG1 := Lib.hid a1; have HB1 := Lib.hid a2; clear a1 a2 a3)
   | ((with_reducible show OpW 4); refine wpList_box _ rfl 31 (.tmp 1) rfl [.string (strB s), .int .i64 i] rfl ?_; intro w2 a1 a2 a3; have HG2 := HG1.out.kept a2; have HB2 := Lib.hid (below_then HB1.out (a2.mono (Nat.le_refl _))); have q0 := BL.get HG2 (j := 0) rfl; have q1 := BL.get HG2 (j := 1) rfl; have q2 := BL.get HG2 (j := 2) rfl; have q3 := BL.get HG2 (j := 3) rfl; have q4 := BL.get HG2 (j := 4) rfl; have p0 := BL.get a1 (j := 0) rfl; clear a1 a2 a3 HG2))
  go_ret
  exact ⟨_, rfl, HB2.out⟩

set_option maxRecDepth 100000 in
set_option maxHeartbeats 1000000 in
theorem same_any (v1 v2 : Value) (n : Nat) (L : List Tk) (w : World) (hn : L.length = n) (hn2 : n ≤ 1000) (h1 : RW w 60 4 v1 n (L.flatMap Tk.cells)) (h2 : RW w 60 4 v2 n (L.flatMap Tk.cells)) :
  Calls Tryz.prog 10 #[v1, v2] w fun e w' => e = .returned (.bool true) ∧ Below w.heap.size w w' := by
 obtain ⟨A1, c1, rfl, _⟩ := h1.form
 obtain ⟨A2, c2, rfl, _⟩ := h2.form
 have H1 := Lib.hid h1
 have H2 := Lib.hid h2
 have hn0 : 0 ≤ (n : Int) := by omega
 clear h1 h2
 go_enter Tryz.func10, Tryz.ntmps10
 go_wp2_with fail
 go_loopw [13] (fun iv wr => ∃ k : Nat, k ≤ n ∧ iv = .int .i64 (k : Int) ∧ Hid (Below w.heap.size w wr)) (fun iv _ => n - (intOf iv).toNat)
 case atStart => exact ⟨0, by omega, rfl, Lib.hid (Below.refl _ _)⟩
 case round =>
  obtain ⟨k, hk, rfl, hb⟩ := hrel
  obtain ⟨wx, hwx⟩ : ∃ x, x = wr := ⟨_, rfl⟩
  rw [← hwx] at hb ⊢
  clear hwx
  by_cases hlt : k < n
  ·
   obtain ⟨g1, o1, c1', e, _, hat1⟩ := (H1.out.kept hb.out).at_ (by omega)
   cases e
   obtain ⟨g2, o2, c2', e, _, hat2⟩ := (H2.out.kept hb.out).at_ (by omega)
   cases e
   obtain ⟨x, hx⟩ : ∃ x, L[k]'(by omega) = x := ⟨_, rfl⟩
   have HA1 : Hid (At wx g1 (o1 + k * 4) x.cells) := Lib.hid (by have := At.elem (f := Tk.cells) (s := 4) (fun _ => rfl) hat1 (k := k) (by omega); rwa [hx] at this)
   have HA2 : Hid (At wx g2 (o2 + k * 4) x.cells) := Lib.hid (by have := At.elem (f := Tk.cells) (s := 4) (fun _ => rfl) hat2 (k := k) (by omega); rwa [hx] at this)
   have hki : (k : Int) < (n : Int) := by omega
   clear hat1 hat2 hx
   go_wp2_with fail
   refine Text.wp_region_text (fun w' => Below wx.heap.size wx w') [(0, 4), (1, 4), (2, 4), (4, 4), (5, 4), (6, 4), (3, 0), (7, 0), (8, 4)] (by kernel_rfl) (by kernel_rfl) (fun _ _ _ _ _ h => h) ((Below.refl _ _).drew) ?_
   iterate 6 (refine Text.purek rfl rfl (fun K hK => ⟨_, fun w' => by go_simp <;> rfl, ?_⟩); go_simp; refine hK _ ?_; clear hK K)
   refine Text.heldk rfl rfl (fun K hK => ?_)
   refine ⟨_, fun w' hw' => exec_loadv 60 (.tmp 18) rfl 4 (by kernel_rfl) g1 (o1 + k * 4) x.cells (by go_simp) (HA1.out.kept hw') rfl, ?_⟩
   go_simp
   refine hK _ ?_
   clear hK K
   refine Text.heldk rfl rfl (fun K hK => ?_)
   refine ⟨_, fun w' hw' => exec_loadv 60 (.tmp 22) rfl 4 (by kernel_rfl) g2 (o2 + k * 4) x.cells (by go_simp) (HA2.out.kept hw') rfl, ?_⟩
   go_simp
   refine hK _ ?_
   clear hK K
   (refine Text.purek rfl rfl (fun K hK => ⟨_, fun w' => by go_simp <;> rfl, ?_⟩); go_simp; refine hK _ ?_; clear hK K)
   refine Text.done ?_
   go_wp2_with fail
   go_roundw
   case rel => exact ⟨k + 1, by omega, by go_num, Lib.hid hb.out.drew⟩
   case measure => simp [intOf]; omega
  ·
   obtain rfl : k = n := by omega
   have hki : ¬ (k : Int) < (k : Int) := by omega
   go_wp2_with fail
   go_ret
   exact ⟨rfl, hb.out⟩

def errV (b : Bool) : Int := if b then 0 else 1
def tksB (K : Ky) (s : List UInt8) (i : Int) (n : Nat) (f c : Int) : Bool := okK K && (idB s i && (dataB n && rangeB f c))
def tksV (K : Ky) (s d : List UInt8) (i : Int) (n : Nat) (f c : Int) : List Tk := if tksB K s i n f c then tokL K s i.toNat d f.toNat c.toNat else []
/-- What Tokens leaves, of the program or of the reference. -/
def TksRet (L : List Tk) (er : Int) (w : World) (e : Ending) (w' : World) : Prop := ∃ v n, e = .returned (.tuple #[v, .int .i64 er]) ∧ L.length = n ∧ n ≤ 1000 ∧ RW w' 60 4 v n (L.flatMap Tk.cells) ∧ Below w.heap.size w w'
theorem tksB_nat {K : Ky} {s : List UInt8} {i : Int} {n : Nat} {f c : Int} (h : tksB K s i n f c = true) : 0 ≤ i ∧ 0 ≤ f ∧ 0 ≤ c ∧ c ≤ 256 ∧ okK K = true ∧ idB s i = true ∧ dataB n = true ∧ rangeB f c = true := by
 simp only [tksB, Bool.and_eq_true] at h
 have h1 := h.2.1
 have h2 := h.2.2.2
 simp only [idB, Bool.and_eq_true, decide_eq_true_eq] at h1
 simp only [rangeB, Bool.and_eq_true, decide_eq_true_eq] at h2
 exact ⟨h1.2.1, h2.1, h2.2.2.1, h2.2.2.2.1, h.1, h.2.1, h.2.2.1, h.2.2.2⟩
theorem tokens_all (Kx : Ky) (s d : List UInt8) (i : Int) (n cp : Nat) (f c : Int) (A : Option Addr) (w : World) (hd : BS w A n cp d) (hT : Tabs w) :
  Calls Tryz.prog 14 #[Kx.val, .agg #[.string (strB s), .int .i64 i], .slice A n cp, .int .i64 f, .int .i64 c] w (TksRet (tksV Kx s d i n f c) (errV (tksB Kx s i n f c)) w) := by
 by_cases h : tksB Kx s i n f c = true
 ·
  obtain ⟨h1, h2, h3, h4, h5, h6, h7, h8⟩ := tksB_nat h
  obtain ⟨i, rfl⟩ := Int.eq_ofNat_of_zero_le h1
  obtain ⟨f, rfl⟩ := Int.eq_ofNat_of_zero_le h2
  obtain ⟨c, rfl⟩ := Int.eq_ofNat_of_zero_le h3
  rw [tksV, errV, if_pos h, if_pos h]
  refine (tokens_yes Kx s d i n cp f c A w hd hT h5 h6 h7 h8).mono ?_
  rintro e w' ⟨g, m, rfl, hm, _, hb, hw⟩
  have hm2 : m = c := by rw [← hm]; simp [tokL]
  exact ⟨_, m, rfl, hm, by omega, RW.of_blk hb (by have h9 := flat_length (f := Tk.cells) (s := 4) (fun _ => rfl) (tokL Kx s i d f c); rw [hm] at h9; exact h9) (by unfold maxLen; omega), hw⟩
 ·
  rw [tksV, errV, if_neg h, if_neg h]
  refine (tokens_not Kx s i A n cp f c w (by simpa [tksB] using h)).mono ?_
  rintro e w' ⟨rfl, hw⟩
  exact ⟨_, 0, rfl, rfl, by omega, RW.nil _ _ _, hw⟩
theorem rtokens_all (Kx : Ky) (s d : List UInt8) (i : Int) (n cp : Nat) (f c : Int) (A : Option Addr) (w : World) (hd : BS w A n cp d) :
  Calls Tryz.prog 29 #[Kx.val, .agg #[.string (strB s), .int .i64 i], .slice A n cp, .int .i64 f, .int .i64 c] w (TksRet (tksV Kx s d i n f c) (errV (tksB Kx s i n f c)) w) := by
 by_cases h : tksB Kx s i n f c = true
 ·
  obtain ⟨h1, h2, h3, h4, h5, h6, h7, h8⟩ := tksB_nat h
  obtain ⟨i, rfl⟩ := Int.eq_ofNat_of_zero_le h1
  obtain ⟨f, rfl⟩ := Int.eq_ofNat_of_zero_le h2
  obtain ⟨c, rfl⟩ := Int.eq_ofNat_of_zero_le h3
  rw [tksV, errV, if_pos h, if_pos h]
  refine (rtokens_yes Kx s d i n cp f c A w hd h5 h6 h7 h8).mono ?_
  rintro e w' ⟨v, m, rfl, hm, hb, hw⟩
  have hm2 : m = c := by rw [← hm]; simp [tokL]
  exact ⟨_, m, rfl, hm, by omega, hb, hw⟩
 ·
  rw [tksV, errV, if_neg h, if_neg h]
  refine (rtokens_not Kx s i A n cp f c w (by simpa [tksB] using h)).mono ?_
  rintro e w' ⟨rfl, hw⟩
  exact ⟨_, 0, rfl, rfl, by omega, RW.nil _ _ _, hw⟩
end Go.Proofs.YtfcakjpljjnjnaaGreatDoor
