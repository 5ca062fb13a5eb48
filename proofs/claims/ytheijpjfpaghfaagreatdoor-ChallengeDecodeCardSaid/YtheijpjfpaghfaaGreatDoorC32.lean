/- Several texts in one: Hl. -/
import Derived.Test.YtheijpjfpaghfaaGreatDoorC31
/- The reference's valid. -/
namespace Go.Proofs.YtheijpjfpaghfaaGreatDoor
open Go Go.RowKit Gf Sha

theorem nodup_snoc {α : Type} {l : List α} {x : α} (h : l.Nodup) (hx : x ∉ l) : (l ++ [x]).Nodup :=
  List.nodup_append.2 ⟨h, List.nodup_cons.2 ⟨List.not_mem_nil, List.nodup_nil⟩, fun a ha b hb e => by rw [List.mem_singleton.1 hb] at e; exact hx (e ▸ ha)⟩
theorem nodup_mid {α : Type} {l m : List α} {x : α} (h : (l ++ m).Nodup) (hx : x ∉ l ++ m) : ((l ++ [x]) ++ m).Nodup := by
  have h1 := List.nodup_append.1 h
  refine List.nodup_append.2 ⟨nodup_snoc h1.1 (fun e => hx (List.mem_append_left _ e)), h1.2.1, fun a ha b hb e => ?_⟩
  rcases List.mem_append.1 ha with h9 | h9
  · exact h1.2.2 a h9 b hb e
  · rw [List.mem_singleton.1 h9] at e
    exact hx (List.mem_append_right _ (e ▸ hb))
theorem not_nodup {α : Type} {l m r : List α} {x : α} (h : x ∈ l ++ m) : ¬ ((l ++ x :: r) ++ m).Nodup := fun h9 => by
  rcases List.mem_append.1 h with h1 | h1
  · exact (List.nodup_append.1 (List.nodup_append.1 h9).1).2.2 x h1 x (List.mem_cons_self ..) rfl
  · exact (List.nodup_append.1 h9).2.2 x (List.mem_append_right _ (List.mem_cons_self ..)) x h1 rfl
set_option maxRecDepth 100000 in
set_option maxHeartbeats 8000000 in
theorem rvalid_any (w : World) (base : Nat) (v : Value) (rs : List Se) (h : RLf w base v rs) (hn : rs.length ≤ 4096) :
    Calls Tryz.prog 43 #[v] w fun e w' => e = .returned (.bool (validE none (rs.map (·.e)) && decide (sizeE (rs.map (·.e)) ≤ 4096))) ∧ Below w.heap.size w w' := by
  obtain ⟨Av, cv, rfl, _⟩ := h.row.form
  have H := Lib.hid h
  obtain ⟨n, hn2⟩ : ∃ n, n = rs.length := ⟨_, rfl⟩
  have HROW := Lib.hid h.row
  rw [← hn2] at hn HROW ⊢
  have HN := Lib.hid hn2
  clear h hn2
  obtain ⟨R, hR⟩ : ∃ R, R = rs.map (·.e) := ⟨_, rfl⟩
  rw [← hR]
  have HRS := Lib.hid hR
  clear hR
  have HSIZE : Hid (∀ wq, Below w.heap.size w wq → Calls Tryz.prog 52 #[.slice Av n cv] wq fun e w' => e = .returned (.int .i64 (sizeE R : Int)) ∧ Below wq.heap.size wq w') := Lib.hid (fun wq hq => by
    have h9 := rsize_any wq base _ rs (H.out.kept hq) (by rw [← HN.out]; omega)
    rw [← HN.out, ← HRS.out] at h9
    exact h9)
  go_enter Tryz.func43, Tryz.ntmps43
  go_wp2_with fail
  go_loopw [12] (fun iv wr => ∃ i : Nat, i ≤ n ∧ iv = .int .i64 (i : Int) ∧ Hid (validE none R = validE (pvE rs i) ((rs.drop i).map (·.e))) ∧ Hid (Below w.heap.size w wr)) (fun iv _ => n - (intOf iv).toNat)
  case atStart => exact ⟨0, by omega, rfl, Lib.hid (by rw [List.drop_zero, HRS.out]; rfl), Lib.hid (Below.refl _ _)⟩
  case round =>
    obtain ⟨i, hi, rfl, hval, hb⟩ := hrel
    obtain ⟨wx, hwx⟩ : ∃ x, x = wr := ⟨_, rfl⟩
    rw [← hwx] at hb ⊢
    clear hwx
    by_cases hik : i < n
    · have hil : i < rs.length := by rw [← HN.out]; exact hik
      obtain ⟨g', o', c', e, _, hat⟩ := HROW.out.at_ (by omega)
      cases e
      obtain ⟨x, hx⟩ : ∃ x, x = rs[i] := ⟨_, rfl⟩
      have HDR : Hid (rs.drop i = x :: rs.drop (i + 1)) := Lib.hid (by rw [List.drop_eq_getElem_cons hil, hx])
      have HPV : Hid (pvE rs (i + 1) = some (idE x.e)) := Lib.hid (by show (rs[i]?).map _ = _; rw [List.getElem?_eq_getElem hil, hx]; rfl)
      have hxm : x ∈ rs := by rw [hx]; exact List.getElem_mem hil
      have HAT := Lib.hid ((At.elem (f := seC) seC_length hat hil).kept hb.out)
      rw [← hx] at HAT
      have HSX := Lib.hid (H.out.ok x hxm)
      have HHAT := Lib.hid hat
      clear hat hx hxm
      obtain ⟨⟨s, z, tk, us⟩, tv, uv⟩ := x
      obtain ⟨A1, c1, e1, _⟩ := HSX.out.t.form
      obtain ⟨A2, c2, e2, _⟩ := HSX.out.u.form
      replace e1 : tv = .slice A1 tk.length c1 := e1
      replace e2 : uv = .slice A2 us.length c2 := e2
      subst e1 e2
      obtain ⟨p, hp⟩ : ∃ p, p = tk.length := ⟨_, rfl⟩
      obtain ⟨q, hq⟩ : ∃ p, p = us.length := ⟨_, rfl⟩
      have HT : Hid (RW w 45 4 (.slice A1 p c1) p (tk.flatMap (tokC s z))) := Lib.hid (by rw [hp]; exact HSX.out.t)
      have HU : Hid (RW w 9 1 (.slice A2 q c2) q (us.map usC)) := Lib.hid (by rw [hq]; exact HSX.out.u)
      have hpb : p ≤ 100000 := by rw [hp]; exact HSX.out.bt
      have hqb : q ≤ 100000 := by rw [hq]; exact HSX.out.bu
      have HAT : Hid (At wx g' (o' + i * 4) [.string (strB s), .int .i64 z, .slice A1 p c1, .slice A2 q c2]) := Lib.hid (by rw [hp, hq]; exact HAT.out)
      have HVS : Hid (validE none R = (okE ⟨s, z, tk, us⟩ && (ascE (pvE rs i) (s, z) && validE (some (s, z)) ((rs.drop (i + 1)).map (·.e))))) := Lib.hid (by rw [hval.out, HDR.out]; rfl)
      have HOKE : Hid (okE ⟨s, z, tk, us⟩ = (idB s z && (decide (p + q ≠ 0) && decide (us ++ tk.map (·.1)).Nodup))) := Lib.hid (by rw [hp, hq]; rfl)
      have HP := Lib.hid hp
      have HQ := Lib.hid hq
      clear hp hq HSX
      go_wp2_with (first
        | ((with_reducible show wpList _ _ _ (⟨some 16, _, _, _, _, _⟩ :: _) _ _); refine wpList_loadv _ rfl 54 (.tmp 15) rfl 4 (by kernel_rfl) g' (o' + i * 4) [.string (strB s), .int .i64 z, .slice A1 p c1, .slice A2 q c2] (by go_simp) HAT.out rfl ?_)
        | ((with_reducible show wpList _ _ _ (⟨some 4, _, _, _, _, _⟩ :: _) _ _); refine wpList_alloc _ rfl 54 rfl reZ reZeroF ?_; intro w2 a1 a2 a3; have HV2 := Lib.hid a1; have HX2 := Lib.hid a2; clear a1 a2 a3)
        | ((with_reducible show wpList _ _ _ (⟨none, _, _, _, _, _⟩ :: _) _ _); refine wpList_storev _ rfl 54 (.tmp 4) (.tmp 16) rfl 4 (by kernel_rfl) wx.heap.size 0 _ reZ [.string (strB s), .int .i64 z, .slice A1 p c1, .slice A2 q c2] rfl rfl HV2.out rfl (one_val _ rfl) (by decide) ?_; intro w3 a1 a2 a3; have HV3 : Hid (BL w3 wx.heap.size 54 [.string (strB s), .int .i64 z, .slice A1 p c1, .slice A2 q c2]) := Lib.hid a1; have HX3 : Hid (Below wx.heap.size wx w3) := Lib.hid (low_own HX2.out a2 (fun i hi e => by omega)); clear a1 a2 a3)
        | fail)
      go_cut [46] (fun s46 wq => ∃ bb : Bool, s46 = .bool bb ∧ Hid (bb = true → validE none R = false) ∧ Hid (bb = false → idB s z = true ∧ ascE (pvE rs i) (s, z) = true ∧ p + q ≠ 0) ∧ Hid (Below w3.heap.size w3 wq))
      case first =>
        have HPA : Hid (∀ wq, Below w3.heap.size w3 wq → At wq wx.heap.size 0 [.string (strB s), .int .i64 z]) := Lib.hid (fun wq hq => At.left (xs := [.slice A1 p c1, .slice A2 q c2]) (BL.all (HV3.out.kept hq)))
        cases h1 : idB s z with
        | false =>
          have HIDB := Lib.hid h1
          have HBAD : Hid (validE none R = false) := Lib.hid (by rw [HVS.out, HOKE.out, h1]; rfl)
          clear h1
          refine Text.wp_region_text (fun w' => Below w3.heap.size w3 w') [(0, 4), (1, 0), (2, 2), (3, 4), (4, 4), (5, 4), (6, 4), (7, 4), (8, 4), (9, 4), (10, 4), (11, 4), (12, 4), (13, 4), (14, 4), (15, 4), (16, 4), (17, 4), (18, 4), (19, 4), (20, 4), (21, 4), (22, 4), (23, 4), (24, 4), (25, 4), (26, 4), (27, 4), (28, 4), (29, 4)] (by kernel_rfl) (by kernel_rfl) (fun _ _ _ _ _ h => h) ((Below.refl _ _).drew) ?_
          (refine Text.purek rfl rfl (fun K hK => ⟨_, fun w' => by go_simp <;> rfl, ?_⟩); go_simp; refine hK _ ?_; clear hK K)
          refine Text.heldk rfl rfl (fun K hK => ?_)
          refine ⟨_, fun w' hw' => exec_loadv 39 (.tmp 17) rfl 2 (by kernel_rfl) wx.heap.size 0 [.string (strB s), .int .i64 z] rfl (HPA.out _ hw') rfl, ?_⟩
          go_simp
          refine hK _ ?_
          clear hK K
          refine Text.eff rfl rfl (fun K hK => ?_)
          go_simp
          refine (rpiece_any s z _).mono ?_
          rintro e w4 ⟨rfl, b1⟩
          rw [HIDB.out]
          have HY : Hid (Below w3.heap.size w3 w4) := Lib.hid (below_then (Below.refl _ _).drew b1)
          refine hK _ _ HY.out ?_
          clear hK K b1
          iterate 2 (refine Text.purek rfl rfl (fun K hK => ⟨_, fun w' => by go_simp <;> rfl, ?_⟩); go_simp; refine hK _ ?_; clear hK K)
          iterate 14 (refine Text.skipk (.inr (.inr rfl)) rfl rfl (fun K hK => ?_); go_simp; refine hK _ ?_; clear hK K)
          iterate 2 (refine Text.purek rfl rfl (fun K hK => ⟨_, fun w' => by go_simp <;> rfl, ?_⟩); go_simp; refine hK _ ?_; clear hK K)
          iterate 8 (refine Text.skipk (.inr (.inr rfl)) rfl rfl (fun K hK => ?_); go_simp; refine hK _ ?_; clear hK K)
          (refine Text.purek rfl rfl (fun K hK => ⟨_, fun w' => by go_simp <;> rfl, ?_⟩); go_simp; refine hK _ ?_; clear hK K)
          refine Text.done ?_
          go_wp2_with fail
          go_meet
          exact ⟨true, rfl, Lib.hid (fun _ => HBAD.out), Lib.hid (fun h => by cases h), HY⟩
        | true =>
          have HIDB := Lib.hid h1
          clear h1
          obtain ⟨T, hT⟩ : ∃ T, T = p + q := ⟨_, rfl⟩
          have fT : (p : Int) + (q : Int) = (T : Int) := by omega
          have fTw : IntKind.i64.wrap ((p : Int) + (q : Int)) = (T : Int) := by rw [IntWalk.i64_in _ (by omega)]; omega
          have fT3 : IntKind.i64.wrap (T : Int) = (T : Int) := by rw [IntWalk.i64_in _ (by omega)]
          have HTZ : Hid (T = 0 → validE none R = false) := Lib.hid (fun h9 => by
            rw [HVS.out, HOKE.out, ← hT, h9]
            show (idB s z && (false && _) && _) = false
            rw [Bool.false_and, Bool.and_false, Bool.false_and])
          have HTN : Hid (T ≠ 0 → p + q ≠ 0) := Lib.hid (fun h9 => by rw [← hT]; exact h9)
          have HLD : Hid (∀ wq, Below w3.heap.size w3 wq → wq.cell? ⟨wx.heap.size, 2, none⟩ = some (.slice A1 p c1) ∧ wq.cell? ⟨wx.heap.size, 3, none⟩ = some (.slice A2 q c2)) := Lib.hid (fun wq hq => ⟨(HV3.out.kept hq).get (j := 2) rfl, (HV3.out.kept hq).get (j := 3) rfl⟩)
          clear hT
          obtain ⟨f0, hf0⟩ : ∃ f : Bool, ((T : Int) == 0) = f := ⟨_, rfl⟩
          have HF0 : Hid (f0 = true ↔ T = 0) := Lib.hid (by rw [← hf0, beq_iff_eq]; omega)
          by_cases h4 : i = 0
          · have fi : decide ((0 : Int) < (i : Int)) = false := decide_eq_false (by omega)
            have fi' : decide (0 < i) = false := decide_eq_false (by omega)
            have HAS : Hid (ascE (pvE rs i) (s, z) = true) := Lib.hid (by rw [h4]; rfl)
            clear h4
            refine Text.wp_region_text (fun w' => Below w3.heap.size w3 w' ∧ w'.cell? ⟨wx.heap.size, 2, none⟩ = some (.slice A1 p c1) ∧ w'.cell? ⟨wx.heap.size, 3, none⟩ = some (.slice A2 q c2)) [(0, 4), (1, 0), (2, 2), (3, 4), (4, 4), (5, 4), (6, 4), (7, 4), (8, 4), (9, 4), (10, 4), (11, 4), (12, 4), (13, 4), (14, 4), (15, 4), (16, 4), (17, 4), (18, 4), (19, 4), (20, 4), (21, 4), (24, 4), (22, 0), (23, 4), (25, 0), (26, 4), (27, 4), (28, 4), (29, 4)] (by kernel_rfl) (by kernel_rfl) (fun _ _ _ _ _ h => h) (⟨(Below.refl _ _).drew, HLD.out _ (Below.refl _ _).drew⟩) ?_
            (refine Text.purek rfl rfl (fun K hK => ⟨_, fun w' => by go_simp <;> rfl, ?_⟩); go_simp; refine hK _ ?_; clear hK K)
            refine Text.heldk rfl rfl (fun K hK => ?_)
            refine ⟨_, fun w' hw' => exec_loadv 39 (.tmp 17) rfl 2 (by kernel_rfl) wx.heap.size 0 [.string (strB s), .int .i64 z] rfl (HPA.out _ hw'.1) rfl, ?_⟩
            go_simp
            refine hK _ ?_
            clear hK K
            refine Text.eff rfl rfl (fun K hK => ?_)
            go_simp
            refine (rpiece_any s z _).mono ?_
            rintro e w4 ⟨rfl, b1⟩
            rw [HIDB.out]
            have HY : Hid (Below w3.heap.size w3 w4) := Lib.hid (below_then (Below.refl _ _).drew b1)
            refine hK _ _ ⟨HY.out, HLD.out _ HY.out⟩ ?_
            clear hK K b1
            iterate 5 (refine Text.purek rfl rfl (fun K hK => ⟨_, fun w' => by go_simp <;> rfl, ?_⟩); go_simp; refine hK _ ?_; clear hK K)
            iterate 10 (refine Text.skipk (.inr (.inr rfl)) rfl rfl (fun K hK => ?_); go_simp; refine hK _ ?_; clear hK K)
            iterate 5 (refine Text.purek rfl rfl (fun K hK => ⟨_, fun w' => by go_simp <;> rfl, ?_⟩); go_simp; refine hK _ ?_; clear hK K)
            (refine Text.heldk rfl rfl (fun K hK => ⟨_, fun w' hw' => by go_simp <;> rfl, ?_⟩); go_simp; refine hK _ ?_; clear hK K)
            (refine Text.purek rfl rfl (fun K hK => ⟨_, fun w' => by go_simp <;> rfl, ?_⟩); go_simp; refine hK _ ?_; clear hK K)
            (refine Text.heldk rfl rfl (fun K hK => ⟨_, fun w' hw' => by go_simp <;> rfl, ?_⟩); go_simp; refine hK _ ?_; clear hK K)
            iterate 4 (refine Text.purek rfl rfl (fun K hK => ⟨_, fun w' => by go_simp <;> rfl, ?_⟩); go_simp; refine hK _ ?_; clear hK K)
            refine Text.done ?_
            go_wp2_with fail
            go_meet
            exact ⟨f0, (by first | rfl | rw [fT3, hf0]), Lib.hid (fun h => HTZ.out (HF0.out.1 h)), Lib.hid (fun h => ⟨HIDB.out, HAS.out, HTN.out (fun e => by rw [HF0.out.2 e] at h; cases h)⟩), HY⟩
          · obtain ⟨j, hj⟩ : ∃ j, j + 1 = i := ⟨i - 1, by omega⟩
            have fi : decide ((0 : Int) < (i : Int)) = true := decide_eq_true (by omega)
            have fi' : decide (0 < i) = true := decide_eq_true (by omega)
            have fw : IntKind.i64.wrap ((i : Int) - 1) = (j : Int) := by rw [IntWalk.i64_in _ (by omega)]; omega
            have fj : (i : Int) - 1 = (j : Int) := by omega
            have fjw : IntKind.i64.wrap (j : Int) = (j : Int) := by rw [IntWalk.i64_in _ (by omega)]
            have fj0 : (0 : Int) ≤ (j : Int) := by omega
            have hjl : j < rs.length := by omega
            have hjk : j < n := by omega
            have hjki : (j : Int) < (n : Int) := by omega
            have HATY := Lib.hid ((At.elem (f := seC) seC_length HHAT.out hjl).kept (below_thenB hb.out hb.out.size HX3.out))
            obtain ⟨y, hy⟩ : ∃ y, y = rs[j] := ⟨_, rfl⟩
            rw [← hy] at HATY
            have HPYV : Hid (pvE rs i = some (idE y.e)) := Lib.hid (by rw [← hj]; show (rs[j]?).map _ = _; rw [List.getElem?_eq_getElem hjl, hy]; rfl)
            clear hy h4
            obtain ⟨⟨sy, zy, tky, usy⟩, tvy, uvy⟩ := y
            have HPB : Hid (∀ wq, Below w3.heap.size w3 wq → At wq g' (o' + j * 4) [.string (strB sy), .int .i64 zy]) := Lib.hid (fun wq hq => At.left (xs := [tvy, uvy]) (HATY.out.kept hq))
            have HASE : Hid (ascE (pvE rs i) (s, z) = ltI (sy, zy) (s, z)) := Lib.hid (by rw [HPYV.out]; rfl)
            clear HATY HPYV
            cases h5 : ltI (sy, zy) (s, z) with
            | false =>
              have HLTI := Lib.hid h5
              have HBAD : Hid (validE none R = false) := Lib.hid (by rw [HVS.out, HASE.out, h5, Bool.false_and, Bool.and_false])
              clear h5 hf0
              refine Text.wp_region_text (fun w' => Below w3.heap.size w3 w' ∧ w'.cell? ⟨wx.heap.size, 2, none⟩ = some (.slice A1 p c1) ∧ w'.cell? ⟨wx.heap.size, 3, none⟩ = some (.slice A2 q c2)) [(0, 4), (1, 0), (2, 2), (3, 4), (4, 4), (5, 4), (6, 4), (7, 4), (8, 4), (9, 4), (10, 4), (11, 4), (12, 4), (14, 4), (13, 0), (15, 0), (16, 2), (17, 4), (18, 4), (19, 4), (20, 4), (21, 4), (22, 4), (23, 4), (24, 4), (25, 4), (26, 4), (27, 4), (28, 4), (29, 4)] (by kernel_rfl) (by kernel_rfl) (fun _ _ _ _ _ h => h) (⟨(Below.refl _ _).drew, HLD.out _ (Below.refl _ _).drew⟩) ?_
              (refine Text.purek rfl rfl (fun K hK => ⟨_, fun w' => by go_simp <;> rfl, ?_⟩); go_simp; refine hK _ ?_; clear hK K)
              refine Text.heldk rfl rfl (fun K hK => ?_)
              refine ⟨_, fun w' hw' => exec_loadv 39 (.tmp 17) rfl 2 (by kernel_rfl) wx.heap.size 0 [.string (strB s), .int .i64 z] rfl (HPA.out _ hw'.1) rfl, ?_⟩
              go_simp
              refine hK _ ?_
              clear hK K
              refine Text.eff rfl rfl (fun K hK => ?_)
              go_simp
              refine (rpiece_any s z _).mono ?_
              rintro e w4 ⟨rfl, b1⟩
              rw [HIDB.out]
              have HY : Hid (Below w3.heap.size w3 w4) := Lib.hid (below_then (Below.refl _ _).drew b1)
              refine hK _ _ ⟨HY.out, HLD.out _ HY.out⟩ ?_
              clear hK K b1
              iterate 11 (refine Text.purek rfl rfl (fun K hK => ⟨_, fun w' => by go_simp <;> rfl, ?_⟩); go_simp; refine hK _ ?_; clear hK K)
              refine Text.heldk rfl rfl (fun K hK => ?_)
              refine ⟨_, fun w' hw' => exec_loadv 39 (.tmp 29) rfl 2 (by kernel_rfl) g' (o' + j * 4) [.string (strB sy), .int .i64 zy] (by go_simp) (HPB.out _ hw'.1) rfl, ?_⟩
              go_simp
              refine hK _ ?_
              clear hK K
              refine Text.heldk rfl rfl (fun K hK => ?_)
              refine ⟨_, fun w' hw' => exec_loadv 39 (.tmp 31) rfl 2 (by kernel_rfl) wx.heap.size 0 [.string (strB s), .int .i64 z] rfl (HPA.out _ hw'.1) rfl, ?_⟩
              go_simp
              refine hK _ ?_
              clear hK K
              refine Text.effw rfl rfl (fun K hK => ?_)
              go_simp
              refine (rless_any sy s zy z _).mono ?_
              rintro e w5 ⟨rfl, b1⟩
              rw [HLTI.out]
              have HY2 : Hid (Below w3.heap.size w3 w5) := Lib.hid (below_thenB HY.out HY.out.size b1)
              refine hK _ _ ⟨HY2.out, HLD.out _ HY2.out⟩ ?_
              clear hK K b1
              iterate 4 (refine Text.purek rfl rfl (fun K hK => ⟨_, fun w' => by go_simp <;> rfl, ?_⟩); go_simp; refine hK _ ?_; clear hK K)
              iterate 8 (refine Text.skipk (.inr (.inr rfl)) rfl rfl (fun K hK => ?_); go_simp; refine hK _ ?_; clear hK K)
              (refine Text.purek rfl rfl (fun K hK => ⟨_, fun w' => by go_simp <;> rfl, ?_⟩); go_simp; refine hK _ ?_; clear hK K)
              refine Text.done ?_
              go_wp2_with fail
              go_meet
              exact ⟨true, rfl, Lib.hid (fun _ => HBAD.out), Lib.hid (fun h => by cases h), HY2⟩
            | true =>
              have HLTI := Lib.hid h5
              have HAS : Hid (ascE (pvE rs i) (s, z) = true) := Lib.hid (by rw [HASE.out, h5])
              clear h5
              refine Text.wp_region_text (fun w' => Below w3.heap.size w3 w' ∧ w'.cell? ⟨wx.heap.size, 2, none⟩ = some (.slice A1 p c1) ∧ w'.cell? ⟨wx.heap.size, 3, none⟩ = some (.slice A2 q c2)) [(0, 4), (1, 0), (2, 2), (3, 4), (4, 4), (5, 4), (6, 4), (7, 4), (8, 4), (9, 4), (10, 4), (11, 4), (12, 4), (14, 4), (13, 0), (15, 0), (16, 2), (17, 4), (18, 4), (19, 4), (20, 4), (21, 4), (24, 4), (22, 0), (23, 4), (25, 0), (26, 4), (27, 4), (28, 4), (29, 4)] (by kernel_rfl) (by kernel_rfl) (fun _ _ _ _ _ h => h) (⟨(Below.refl _ _).drew, HLD.out _ (Below.refl _ _).drew⟩) ?_
              (refine Text.purek rfl rfl (fun K hK => ⟨_, fun w' => by go_simp <;> rfl, ?_⟩); go_simp; refine hK _ ?_; clear hK K)
              refine Text.heldk rfl rfl (fun K hK => ?_)
              refine ⟨_, fun w' hw' => exec_loadv 39 (.tmp 17) rfl 2 (by kernel_rfl) wx.heap.size 0 [.string (strB s), .int .i64 z] rfl (HPA.out _ hw'.1) rfl, ?_⟩
              go_simp
              refine hK _ ?_
              clear hK K
              refine Text.eff rfl rfl (fun K hK => ?_)
              go_simp
              refine (rpiece_any s z _).mono ?_
              rintro e w4 ⟨rfl, b1⟩
              rw [HIDB.out]
              have HY : Hid (Below w3.heap.size w3 w4) := Lib.hid (below_then (Below.refl _ _).drew b1)
              refine hK _ _ ⟨HY.out, HLD.out _ HY.out⟩ ?_
              clear hK K b1
              iterate 11 (refine Text.purek rfl rfl (fun K hK => ⟨_, fun w' => by go_simp <;> rfl, ?_⟩); go_simp; refine hK _ ?_; clear hK K)
              refine Text.heldk rfl rfl (fun K hK => ?_)
              refine ⟨_, fun w' hw' => exec_loadv 39 (.tmp 29) rfl 2 (by kernel_rfl) g' (o' + j * 4) [.string (strB sy), .int .i64 zy] (by go_simp) (HPB.out _ hw'.1) rfl, ?_⟩
              go_simp
              refine hK _ ?_
              clear hK K
              refine Text.heldk rfl rfl (fun K hK => ?_)
              refine ⟨_, fun w' hw' => exec_loadv 39 (.tmp 31) rfl 2 (by kernel_rfl) wx.heap.size 0 [.string (strB s), .int .i64 z] rfl (HPA.out _ hw'.1) rfl, ?_⟩
              go_simp
              refine hK _ ?_
              clear hK K
              refine Text.effw rfl rfl (fun K hK => ?_)
              go_simp
              refine (rless_any sy s zy z _).mono ?_
              rintro e w5 ⟨rfl, b1⟩
              rw [HLTI.out]
              have HY2 : Hid (Below w3.heap.size w3 w5) := Lib.hid (below_thenB HY.out HY.out.size b1)
              refine hK _ _ ⟨HY2.out, HLD.out _ HY2.out⟩ ?_
              clear hK K b1
              iterate 6 (refine Text.purek rfl rfl (fun K hK => ⟨_, fun w' => by go_simp <;> rfl, ?_⟩); go_simp; refine hK _ ?_; clear hK K)
              (refine Text.heldk rfl rfl (fun K hK => ⟨_, fun w' hw' => by go_simp <;> rfl, ?_⟩); go_simp; refine hK _ ?_; clear hK K)
              (refine Text.purek rfl rfl (fun K hK => ⟨_, fun w' => by go_simp <;> rfl, ?_⟩); go_simp; refine hK _ ?_; clear hK K)
              (refine Text.heldk rfl rfl (fun K hK => ⟨_, fun w' hw' => by go_simp <;> rfl, ?_⟩); go_simp; refine hK _ ?_; clear hK K)
              iterate 4 (refine Text.purek rfl rfl (fun K hK => ⟨_, fun w' => by go_simp <;> rfl, ?_⟩); go_simp; refine hK _ ?_; clear hK K)
              refine Text.done ?_
              go_wp2_with fail
              go_meet
              exact ⟨f0, (by first | rfl | rw [fT3, hf0]), Lib.hid (fun h => HTZ.out (HF0.out.1 h)), Lib.hid (fun h => ⟨HIDB.out, HAS.out, HTN.out (fun e => by rw [HF0.out.2 e] at h; cases h)⟩), HY2⟩
      case rest =>
        obtain ⟨bb, rfl, hbad, hok, hbc⟩ := hcut
        obtain ⟨wz, hwz⟩ : ∃ wz, wz = wc := ⟨_, rfl⟩
        rw [← hwz] at hbc ⊢
        clear hwz
        have HBZ := Lib.hid (below_thenB hb.out hb.out.size (below_thenB HX3.out HX3.out.size hbc.out))
        have HVZ := Lib.hid (HV3.out.kept hbc.out)
        have HBAD0 := Lib.hid hbad.out
        clear hbad
        cases bb with
        | true =>
          have HBAD := Lib.hid (HBAD0.out rfl)
          go_wp2_with fail
          go_ret
          exact ⟨by rw [HBAD.out]; rfl, HBZ.out⟩
        | false =>
        have HNX : Hid ((us ++ tk.map (·.1)).Nodup → validE none R = validE (pvE rs (i + 1)) ((rs.drop (i + 1)).map (·.e))) := Lib.hid (fun h9 => by
          rw [HVS.out, HOKE.out, (hok.out rfl).1, (hok.out rfl).2.1, decide_eq_true (hok.out rfl).2.2, decide_eq_true h9, HPV.out]
          rfl)
        have HNF : Hid (¬ (us ++ tk.map (·.1)).Nodup → validE none R = false) := Lib.hid (fun h9 => by
          rw [HVS.out, HOKE.out, decide_eq_false h9, Bool.and_false, Bool.and_false]
          rfl)
        clear hok hbc HVS HOKE HV3 HX3 HV2 HX2
        go_wp2_with (first
          | ((with_reducible show wpList _ _ _ (⟨some 5, _, _, _, _, _⟩ :: _) _ _); refine wpList_alloc _ rfl 54 rfl reZ reZeroF ?_; intro w4 a1 a2 a3; have HV4 := Lib.hid a1; have HX4 := Lib.hid a2; clear a1 a2 a3)
          | ((with_reducible show wpList _ _ _ (⟨none, _, _, _, _, _⟩ :: _) _ _); refine wpList_storev _ rfl 54 (.tmp 5) (.tmp 47) rfl 4 (by kernel_rfl) wz.heap.size 0 _ reZ reZ rfl rfl HV4.out rfl (one_val _ rfl) (by decide) ?_; intro w5 a1 a2 a3; have HV5 : Hid (BL w5 wz.heap.size 54 [.string (strB []), .int .i64 0, nilV, nilV]) := Lib.hid a1; have HX5 : Hid (Below wz.heap.size wz w5) := Lib.hid (low_own HX4.out a2 (fun i hi e => by omega)); have q2 := (HVZ.out.kept HX5.out).get (j := 2) rfl; have q3 := (HVZ.out.kept HX5.out).get (j := 3) rfl; clear a1 a2 a3))
        have HS5 : Hid (∀ b, (nilV : Value).ownBlock = some b → wz.heap.size < b) := Lib.hid (fun b e => by cases e)
        go_loopw [51] (fun iv wr => ∃ (j : Nat) (sv : Value), j ≤ p ∧ iv = .int .i64 (j : Int) ∧ Hid ((tk.take j).map (·.1)).Nodup ∧ Hid (BL wr wz.heap.size 54 [.string (strB []), .int .i64 0, sv, nilV]) ∧ Hid (RW wr 45 4 sv j ((tk.take j).flatMap (tokC s z))) ∧ Hid (∀ b, sv.ownBlock = some b → wz.heap.size < b) ∧ Hid (Below wz.heap.size wz wr)) (fun iv _ => p - (intOf iv).toNat)
        case atStart => exact ⟨0, nilV, by omega, rfl, Lib.hid List.nodup_nil, HV5, Lib.hid (RW.nil _ _ _), HS5, HX5⟩
        case round =>
          obtain ⟨j, sv, hj, rfl, hnd, hsv, hrw, hown, hbr⟩ := hrel
          obtain ⟨wy, hwy⟩ : ∃ x, x = wr := ⟨_, rfl⟩
          rw [← hwy] at hsv hrw hbr ⊢
          clear hwy
          by_cases hjp : j < p
          · have hjl : j < tk.length := by rw [← HP.out]; exact hjp
            obtain ⟨g, o, c3, e, _, hat⟩ := HT.out.at_ (by omega)
            cases e
            obtain ⟨y, hy⟩ : ∃ y, y = tk[j] := ⟨_, rfl⟩
            have HTA := Lib.hid ((At.elem (f := tokC s z) (tokC_len s z) hat hjl).kept (below_thenB HBZ.out HBZ.out.size hbr.out))
            rw [← hy] at HTA
            have HTK : Hid (tk.take (j + 1) = tk.take j ++ [y]) := Lib.hid (by rw [List.take_succ_eq_append_getElem hjl, hy])
            have HDK : Hid (tk = tk.take j ++ y :: tk.drop (j + 1)) := Lib.hid (by
              have h9 := (List.take_append_drop j tk).symm
              rw [List.drop_eq_getElem_cons hjl, ← hy] at h9
              exact h9)
            have HLT : Hid ((tk.take j).length = j) := Lib.hid (by rw [List.length_take]; omega)
            obtain ⟨B, hB⟩ : ∃ B, B = decide (y.1 ∈ [] ++ (tk.take j).map (·.1)) := ⟨_, rfl⟩
            have HB9 := Lib.hid hB
            have HSVC : Hid (sv.cells = #[sv] ∧ sv.oneCell' = true) := Lib.hid hrw.out.cell1
            clear hat hy
            cases B with
            | true =>
              have HBAD : Hid (validE none R = false) := Lib.hid (HNF.out (fun h9 => by
                have h8 := of_decide_eq_true hB.symm
                rw [List.nil_append] at h8
                have h7 := (List.nodup_append.1 h9).2.1
                rw [HDK.out, List.map_append, List.map_cons] at h7
                have h6 : y.1 ∈ (tk.take j).map (·.1) ++ ([] : List (List UInt8)) := by rw [List.append_nil]; exact h8
                have h5 := not_nodup (r := (tk.drop (j + 1)).map (·.1)) h6
                rw [List.append_nil] at h5
                exact h5 h7))
              clear hB
              go_wp2_with (first
                | ((with_reducible show wpList _ _ _ (⟨some 54, _, _, _, _, _⟩ :: _) _ _); refine wpList_loadv _ rfl 45 (.tmp 53) rfl 4 (by kernel_rfl) g (o + j * 4) (tokC s z y) (by go_simp) HTA.out rfl ?_)
                | ((with_reducible show wpList _ _ _ (⟨some 7, _, _, _, _, _⟩ :: _) _ _); refine wpList_alloc _ rfl 45 rfl tokZ tokZero' ?_; intro y6 a1 a2 a3; have HTV6 := Lib.hid a1; have HY6 := Lib.hid a2; clear a1 a2 a3)
                | ((with_reducible show wpList _ _ _ (⟨none, _, _, _, _, _⟩ :: _) _ _); refine wpList_storev _ rfl 45 (.tmp 7) (.tmp 54) rfl 4 (by kernel_rfl) wy.heap.size 0 _ tokZ (tokC s z y) rfl rfl HTV6.out rfl (tokC_one _ _ _) (by decide) ?_; intro y7 a1 a2 a3; have HTV7 : Hid (BL y7 wy.heap.size 45 (tokC s z y)) := Lib.hid a1; have HY7 : Hid (Below wy.heap.size wy y7) := Lib.hid (low_own HY6.out a2 (fun i hi e => by omega)); have q9 : y7.cell? ⟨wy.heap.size, 2, none⟩ = some (.string (strB y.1)) := HTV7.out.get (j := 2) rfl; clear a1 a2 a3)
                | ((with_reducible show wpList _ _ _ (⟨some 55, _, _, _, _, _⟩ :: _) _ _); refine wpList_loadv _ rfl 54 (.tmp 5) rfl 4 (by kernel_rfl) wz.heap.size 0 [.string (strB []), .int .i64 0, sv, nilV] rfl (BL.all (hsv.out.kept HY7.out)) rfl ?_)
                | (go_at_call 51; refine (rknows_any y7 [] 0 sv nilV s z (tk.take j) [] y.1 (by rw [HLT.out]; exact hrw.out.kept HY7.out) (RW.nil _ _ _) (by rw [HLT.out]; omega) (by decide)).mono ?_; rintro e y8 ⟨rfl, b1⟩; rw [← HB9.out]; have HY8 := Lib.hid (below_thenB HY7.out HY7.out.size b1); have HTV8 := Lib.hid (HTV7.out.kept b1); have HSV8 := Lib.hid (hsv.out.kept HY8.out); have HRW8 := Lib.hid (hrw.out.kept HY8.out); have q8 : y8.cell? ⟨wz.heap.size, 2, none⟩ = some sv := HSV8.out.get (j := 2) rfl; clear b1)
                | fail)
              go_ret
              exact ⟨by rw [HBAD.out]; rfl, (below_thenB HBZ.out HBZ.out.size (below_thenB hbr.out hbr.out.size HY8.out))⟩
            | false =>
              have HND : Hid ((tk.take (j + 1)).map (·.1)).Nodup := Lib.hid (by
                rw [HTK.out, List.map_append]
                exact nodup_snoc hnd.out (fun h9 => of_decide_eq_false hB.symm (by rw [List.nil_append]; exact h9)))
              clear hB
              go_wp2_with (first
                | ((with_reducible show wpList _ _ _ (⟨some 54, _, _, _, _, _⟩ :: _) _ _); refine wpList_loadv _ rfl 45 (.tmp 53) rfl 4 (by kernel_rfl) g (o + j * 4) (tokC s z y) (by go_simp) HTA.out rfl ?_)
                | ((with_reducible show wpList _ _ _ (⟨some 7, _, _, _, _, _⟩ :: _) _ _); refine wpList_alloc _ rfl 45 rfl tokZ tokZero' ?_; intro y6 a1 a2 a3; have HTV6 := Lib.hid a1; have HY6 := Lib.hid a2; clear a1 a2 a3)
                | ((with_reducible show wpList _ _ _ (⟨none, _, _, _, _, _⟩ :: _) _ _); refine wpList_storev _ rfl 45 (.tmp 7) (.tmp 54) rfl 4 (by kernel_rfl) wy.heap.size 0 _ tokZ (tokC s z y) rfl rfl HTV6.out rfl (tokC_one _ _ _) (by decide) ?_; intro y7 a1 a2 a3; have HTV7 : Hid (BL y7 wy.heap.size 45 (tokC s z y)) := Lib.hid a1; have HY7 : Hid (Below wy.heap.size wy y7) := Lib.hid (low_own HY6.out a2 (fun i hi e => by omega)); have q9 : y7.cell? ⟨wy.heap.size, 2, none⟩ = some (.string (strB y.1)) := HTV7.out.get (j := 2) rfl; clear a1 a2 a3)
                | ((with_reducible show wpList _ _ _ (⟨some 55, _, _, _, _, _⟩ :: _) _ _); refine wpList_loadv _ rfl 54 (.tmp 5) rfl 4 (by kernel_rfl) wz.heap.size 0 [.string (strB []), .int .i64 0, sv, nilV] rfl (BL.all (hsv.out.kept HY7.out)) rfl ?_)
                | (go_at_call 51; refine (rknows_any y7 [] 0 sv nilV s z (tk.take j) [] y.1 (by rw [HLT.out]; exact hrw.out.kept HY7.out) (RW.nil _ _ _) (by rw [HLT.out]; omega) (by decide)).mono ?_; rintro e y8 ⟨rfl, b1⟩; rw [← HB9.out]; have HY8 := Lib.hid (below_thenB HY7.out HY7.out.size b1); have HTV8 := Lib.hid (HTV7.out.kept b1); have HSV8 := Lib.hid (hsv.out.kept HY8.out); have HRW8 := Lib.hid (hrw.out.kept HY8.out); have q8 : y8.cell? ⟨wz.heap.size, 2, none⟩ = some sv := HSV8.out.get (j := 2) rfl; clear b1)
                | ((with_reducible show wpList _ _ _ (⟨some 61, _, _, _, _, _⟩ :: _) _ _); refine wpList_loadv _ rfl 45 (.tmp 7) rfl 4 (by kernel_rfl) wy.heap.size 0 (tokC s z y) rfl (BL.all HTV8.out) rfl ?_)
                | ((with_reducible show wpList _ _ _ (⟨some 62, _, _, _, _, _⟩ :: _) _ _); refine wpList_bslice _ rfl 37 45 1 _ rfl #[(0, .agg (tokC s z y).toArray)] (by rw [List.map_toArray]; rfl) (tokC s z y) (by exact bslTok s y.1 y.2 z _) ?_; intro y9 a1 a2 a3; have HN9 := Lib.hid a1; have HSV9 := Lib.hid (HSV8.out.kept a2); have HRW9 := Lib.hid (HRW8.out.kept a2); have HY9 := Lib.hid (below_thenB HY8.out HY8.out.size a2); clear a1 a2 a3)
                | ((with_reducible show wpList _ _ _ (⟨some 63, _, _, _, _, _⟩ :: _) _ _); obtain ⟨iS, i1, i2, i3, i4⟩ := info_some infoTk4; refine wpList_appRW _ rfl (.tmp 60) (.tmp 62) 37 45 4 iS _ rfl Tryz.underlying37 i1 i2 i3 rfl sv j _ rfl HRW9.out y8.heap.size _ rfl HN9.out rfl (tokC_one _ _ _) (by rw [i4]; omega) (by omega) ?_; intro v4 y4 ap; have HR4 : Hid (RW y4 45 4 v4 (j + 1) ((tk.take (j + 1)).flatMap (tokC s z))) := Lib.hid (by have h9 := ap.row; rw [HTK.out, List.flatMap_append]; simpa using h9); have HO4 : Hid (∀ b, v4.ownBlock = some b → wz.heap.size < b) := Lib.hid (fun b e => (ap.own b e).elim (hown.out b) (fun h => by have := hsv.out.lt; have := HY9.out.size; omega)); have HSV4 := Lib.hid (ap.kp.bl HSV9.out (fun e => by have := hown.out _ e; omega)); have HB4 : Hid (Below wz.heap.size wz y4) := Lib.hid (low_own (below_thenB hbr.out hbr.out.size HY9.out) ap.kp (fun i hi e => by have := hown.out i e; omega)); clear ap i1 i2 i3 i4)
                | ((with_reducible show wpList _ _ _ (⟨none, _, _, _, _, _⟩ :: _) _ _); refine wpList_store1 _ rfl 37 (.tmp 64) (.tmp 63) rfl (sz1 _ (by kernel_rfl) _) wz.heap.size 2 _ _ v4 rfl rfl HSV4.out HR4.out.cell1.1 HR4.out.cell1.2 (by simp) ?_; intro y5 a1 a2 a3; have HSV5 : Hid (BL y5 wz.heap.size 54 [.string (strB []), .int .i64 0, v4, nilV]) := Lib.hid a1; have HR5 := Lib.hid (HR4.out.kp a2 (fun b e e9 => by have := HO4.out b e; omega)); have HB5 : Hid (Below wz.heap.size wz y5) := Lib.hid (low_own HB4.out a2 (fun i hi e => by omega)); clear a1 a2 a3))
              go_roundw
              case rel => exact ⟨j + 1, v4, by omega, by go_num, HND, HSV5, HR5, HO4, HB5⟩
              case measure => simp [intOf]; omega
          · obtain rfl : j = p := by omega
            have HTT : Hid (tk.take j = tk) := Lib.hid (by rw [HP.out, List.take_length])
            rw [HTT.out] at hnd hrw
            have q3' := (HVZ.out.kept hbr.out).get (j := 3) rfl
            have HOS : Hid (∀ b, sv.ownBlock = some b → b < wy.heap.size) := Lib.hid (fun b e => hrw.out.lt e)
            clear HTT
            go_wp2_with fail
            go_loopw [69] (fun iv wr => ∃ (m : Nat) (nv : Value), m ≤ q ∧ iv = .int .i64 (m : Int) ∧ Hid (us.take m ++ tk.map (·.1)).Nodup ∧ Hid (BL wr wz.heap.size 54 [.string (strB []), .int .i64 0, sv, nv]) ∧ Hid (RW wr 45 4 sv j (tk.flatMap (tokC s z))) ∧ Hid (RW wr 9 1 nv m ((us.take m).map usC)) ∧ Hid (∀ b, nv.ownBlock = some b → wy.heap.size ≤ b) ∧ Hid (Below wz.heap.size wz wr) ∧ Hid (wy.heap.size ≤ wr.heap.size)) (fun iv _ => q - (intOf iv).toNat)
            case atStart => exact ⟨0, nilV, by omega, rfl, Lib.hid (by simpa using hnd.out), hsv, hrw, Lib.hid (RW.nil _ _ _), Lib.hid (fun b e => by cases e), hbr, Lib.hid (Nat.le_refl _)⟩
            case round =>
              obtain ⟨m, nv, hm, rfl, hnd2, hsv2, hrt2, hru2, hown2, hbr2, hge⟩ := hrel
              obtain ⟨wu, hwu⟩ : ∃ x, x = wr := ⟨_, rfl⟩
              rw [← hwu] at hsv2 hrt2 hru2 hbr2 hge ⊢
              clear hwu
              by_cases hmq : m < q
              · have hml : m < us.length := by rw [← HQ.out]; exact hmq
                obtain ⟨g, o, c3, e, _, hat⟩ := HU.out.at_ (by omega)
                cases e
                obtain ⟨y, hy⟩ : ∃ y, y = us[m] := ⟨_, rfl⟩
                have cx : wu.cell? ⟨g, o + m, none⟩ = some (.string (strB y)) := (hat.kept (below_thenB HBZ.out HBZ.out.size hbr2.out)) m _ (by rw [List.getElem?_map, List.getElem?_eq_getElem hml, hy]; rfl)
                have HTK : Hid (us.take (m + 1) = us.take m ++ [y]) := Lib.hid (by rw [List.take_succ_eq_append_getElem hml, hy])
                have HDK : Hid (us = us.take m ++ y :: us.drop (m + 1)) := Lib.hid (by
                  have h9 := (List.take_append_drop m us).symm
                  rw [List.drop_eq_getElem_cons hml, ← hy] at h9
                  exact h9)
                have HLT : Hid ((us.take m).length = m) := Lib.hid (by rw [List.length_take]; omega)
                obtain ⟨B, hB⟩ : ∃ B, B = decide (y ∈ us.take m ++ tk.map (·.1)) := ⟨_, rfl⟩
                have HB9 := Lib.hid hB
                clear hat hy
                cases B with
                | true =>
                  have HBAD : Hid (validE none R = false) := Lib.hid (HNF.out (fun h9 => by
                    rw [HDK.out] at h9
                    exact not_nodup (of_decide_eq_true hB.symm) h9))
                  clear hB
                  go_wp2_with (first
                    | ((with_reducible show wpList _ _ _ (⟨some 73, _, _, _, _, _⟩ :: _) _ _); refine wpList_loadv _ rfl 54 (.tmp 5) rfl 4 (by kernel_rfl) wz.heap.size 0 [.string (strB []), .int .i64 0, sv, nv] rfl (BL.all hsv2.out) rfl ?_)
                    | (go_at_call 51; refine (rknows_any wu [] 0 sv nv s z tk (us.take m) y (by rw [← HP.out]; exact hrt2.out) (by rw [HLT.out]; exact hru2.out) (by rw [← HP.out]; omega) (by rw [HLT.out]; omega)).mono ?_; rintro e y8 ⟨rfl, b1⟩; rw [← HB9.out]; have HY8 := Lib.hid b1; have HSV8 := Lib.hid (hsv2.out.kept HY8.out); have HRT8 := Lib.hid (hrt2.out.kept HY8.out); have HRU8 := Lib.hid (hru2.out.kept HY8.out); have q8 : y8.cell? ⟨wz.heap.size, 3, none⟩ = some nv := HSV8.out.get (j := 3) rfl; clear b1)
                    | fail)
                  go_ret
                  exact ⟨by rw [HBAD.out]; rfl, (below_thenB HBZ.out HBZ.out.size (below_thenB hbr2.out hbr2.out.size HY8.out))⟩
                | false =>
                  have HND : Hid (us.take (m + 1) ++ tk.map (·.1)).Nodup := Lib.hid (by
                    rw [HTK.out]
                    exact nodup_mid hnd2.out (of_decide_eq_false hB.symm))
                  clear hB
                  go_wp2_with (first
                    | ((with_reducible show wpList _ _ _ (⟨some 73, _, _, _, _, _⟩ :: _) _ _); refine wpList_loadv _ rfl 54 (.tmp 5) rfl 4 (by kernel_rfl) wz.heap.size 0 [.string (strB []), .int .i64 0, sv, nv] rfl (BL.all hsv2.out) rfl ?_)
                    | (go_at_call 51; refine (rknows_any wu [] 0 sv nv s z tk (us.take m) y (by rw [← HP.out]; exact hrt2.out) (by rw [HLT.out]; exact hru2.out) (by rw [← HP.out]; omega) (by rw [HLT.out]; omega)).mono ?_; rintro e y8 ⟨rfl, b1⟩; rw [← HB9.out]; have HY8 := Lib.hid b1; have HSV8 := Lib.hid (hsv2.out.kept HY8.out); have HRT8 := Lib.hid (hrt2.out.kept HY8.out); have HRU8 := Lib.hid (hru2.out.kept HY8.out); have q8 : y8.cell? ⟨wz.heap.size, 3, none⟩ = some nv := HSV8.out.get (j := 3) rfl; clear b1)
                    | ((with_reducible show wpList _ _ _ (⟨some 79, _, _, _, _, _⟩ :: _) _ _); refine wpList_bslice _ rfl 52 9 1 _ rfl #[(0, .string (strB y))] (by rw [List.map_toArray]; rfl) [.string (strB y)] (by exact bslS y _) ?_; intro y9 a1 a2 a3; have HN9 := Lib.hid a1; have HSV9 := Lib.hid (HSV8.out.kept a2); have HRT9 := Lib.hid (HRT8.out.kept a2); have HRU9 := Lib.hid (HRU8.out.kept a2); have HY9 := Lib.hid (below_thenB HY8.out HY8.out.size a2); clear a1 a2 a3)
                    | ((with_reducible show wpList _ _ _ (⟨some 80, _, _, _, _, _⟩ :: _) _ _); obtain ⟨iS, i1, i2, i3, i4⟩ := info_some infoStr; refine wpList_appRW _ rfl (.tmp 77) (.tmp 79) 52 9 1 iS _ rfl Tryz.underlying52 i1 i2 i3 rfl nv m _ rfl HRU9.out y8.heap.size _ rfl HN9.out rfl (one_val _ rfl) (by rw [i4]; omega) (by omega) ?_; intro v4 y4 ap; have HR4 : Hid (RW y4 9 1 v4 (m + 1) ((us.take (m + 1)).map usC)) := Lib.hid (by have h9 := ap.row; rw [HTK.out, List.map_append]; exact h9); have HO4 : Hid (∀ b, v4.ownBlock = some b → wy.heap.size ≤ b) := Lib.hid (fun b e => (ap.own b e).elim (hown2.out b) (fun h => by have := hge.out; have := HY9.out.size; omega)); have HRT4 := Lib.hid (HRT9.out.kp ap.kp (fun b e e9 => by have := hown2.out b e9; have := HOS.out b e; omega)); have HSV4 := Lib.hid (ap.kp.bl HSV9.out (fun e => by have := hown2.out _ e; have := hsv.out.lt; omega)); have HB4 : Hid (Below wz.heap.size wz y4) := Lib.hid (low_own (below_thenB hbr2.out hbr2.out.size HY9.out) ap.kp (fun i hi e => by have := hown2.out i e; have := hsv.out.lt; omega)); have HG4 : Hid (wy.heap.size ≤ y4.heap.size) := Lib.hid (Nat.le_trans hge.out (Nat.le_trans HY9.out.size ap.kp.size)); clear ap i1 i2 i3 i4)
                    | ((with_reducible show wpList _ _ _ (⟨none, _, _, _, _, _⟩ :: _) _ _); refine wpList_store1 _ rfl 52 (.tmp 81) (.tmp 80) rfl (sz1 _ (by kernel_rfl) _) wz.heap.size 3 _ _ v4 rfl rfl HSV4.out HR4.out.cell1.1 HR4.out.cell1.2 (by simp) ?_; intro y5 a1 a2 a3; have HSV5 : Hid (BL y5 wz.heap.size 54 [.string (strB []), .int .i64 0, sv, v4]) := Lib.hid a1; have HR5 := Lib.hid (HR4.out.kp a2 (fun b e e9 => by have := HO4.out b e; have := hsv.out.lt; omega)); have HRT5 := Lib.hid (HRT4.out.kp a2 (fun b e e9 => by have := hown.out b e; omega)); have HB5 : Hid (Below wz.heap.size wz y5) := Lib.hid (low_own HB4.out a2 (fun i hi e => by omega)); have HG5 : Hid (wy.heap.size ≤ y5.heap.size) := Lib.hid (Nat.le_trans HG4.out a2.size); clear a1 a2 a3))
                  go_roundw
                  case rel => exact ⟨m + 1, v4, by omega, by go_num, HND, HSV5, HRT5, HR5, HO4, HB5, HG5⟩
                  case measure => simp [intOf]; omega
              · obtain rfl : m = q := by omega
                have HNEXT := Lib.hid (HNX.out (by
                  have h9 := hnd2.out
                  rw [HQ.out, List.take_length] at h9
                  exact h9))
                have HBE := Lib.hid (below_thenB HBZ.out HBZ.out.size hbr2.out)
                clear hnd hnd2 HNX HNF
                go_wp2_with fail
                go_roundw
                case rel => exact ⟨i + 1, by omega, by go_num, HNEXT, HBE⟩
                case measure => simp [intOf]; omega
    · obtain rfl : i = n := by omega
      have HE : Hid (validE none R = true) := Lib.hid (by
        rw [hval.out, HN.out, List.drop_length]
        rfl)
      obtain ⟨Z, hZ⟩ : ∃ Z, Z = sizeE R := ⟨_, rfl⟩
      rw [← hZ] at HSIZE
      have HZ := Lib.hid hZ
      by_cases h0 : Z ≤ 4096
      · have f0 : decide ((Z : Int) ≤ 4096) = true := decide_eq_true (by omega)
        have f1 : decide (Z ≤ 4096) = true := decide_eq_true h0
        have HF := Lib.hid f1
        clear h0 hZ
        go_wp2_with (go_at_call 52; refine (HSIZE.out wx hb.out).mono ?_; rintro e w4 ⟨rfl, b1⟩; have HB4 := Lib.hid (below_thenB hb.out hb.out.size b1); clear b1)
        go_ret
        exact ⟨by rw [HE.out, ← HZ.out, HF.out]; rfl, HB4.out⟩
      · have f0 : decide ((Z : Int) ≤ 4096) = false := decide_eq_false (by omega)
        have f1 : decide (Z ≤ 4096) = false := decide_eq_false h0
        have HF := Lib.hid f1
        clear h0 hZ
        go_wp2_with (go_at_call 52; refine (HSIZE.out wx hb.out).mono ?_; rintro e w4 ⟨rfl, b1⟩; have HB4 := Lib.hid (below_thenB hb.out hb.out.size b1); clear b1)
        go_ret
        exact ⟨by rw [HE.out, ← HZ.out, HF.out]; rfl, HB4.out⟩
end Go.Proofs.YtheijpjfpaghfaaGreatDoor
