/- Several texts in one: Hr, Hs. -/
import Derived.Test.YtheijpjfpaghfaaGreatDoorC37
/- Purse.Encode: its walk. -/
namespace Go.Proofs.YtheijpjfpaghfaaGreatDoor
open Go Go.RowKit Go.ChangeMaps Go.MapKept Gf Sha

theorem sorted_lt {l : List Pid} (hn : l.Nodup) (h : l.Pairwise (fun x y => ltI y x = false)) : l.Pairwise (fun x y => ltI x y = true) := by
 refine (hn.and h).imp ?_
 rintro x y ⟨hne, h1⟩
 cases h2 : ltI x y with
 | true => rfl
 | false => exact absurd (ltI_tot h2 h1) hne
set_option maxRecDepth 100000 in
set_option maxHeartbeats 8000000 in
theorem pencode_any (w : World) (gp gm : Nat) (L : List Se) (h : PG w gp gm L) (hgd : ∀ x ∈ L, GoodE x.e) (hn : L.length ≤ 100000) (hlen : ∀ l : List En, l.Perm (L.map (·.e)) → (encE l).length ≤ 1000000) :
  Calls Tryz.prog 8 #[.pointer (some ⟨gp, 0, none⟩)] w fun e w' => ∃ A n c, ∃ LS : List Se, e = .returned (.slice A n c) ∧ LS.Perm L ∧ (LS.map fun x => idE x.e).Pairwise (fun a b => ltI a b = true) ∧ BS w' A n c (encE (LS.map (·.e))) ∧ Below w.heap.size w w' := by
 have HP := Lib.hid h
 have HGD := Lib.hid hgd
 have HN := Lib.hid hn
 have HLEN := Lib.hid hlen
 clear h hgd hn hlen
 go_enter Tryz.func8, Tryz.ntmps8
 go_wp2_with (first
  | (go_at_call 44; refine (newWriter2 w).mono ?_; rintro e w1 ⟨rfl, r1, r2⟩; have HW1 := Lib.hid r1; have HB1 := Lib.hid r2; have HG1L : Hid (w.heap.size < w1.heap.size) := Lib.hid r1.b.lt; clear r1 r2)
  | (go_at_call 45; refine (pknown_any w1 gp gm L (HP.out.kept HB1.out) HN.out).mono ?_; rintro e w2 ⟨kv, ids, rfl, r1, r2, r3, r4, r5⟩; obtain ⟨Av, cv, ev, _⟩ := r3.form; subst ev; obtain ⟨LS, p1, p2⟩ := perm_lift r1; obtain ⟨n, hn⟩ : ∃ n, n = ids.length := ⟨_, rfl⟩; rw [← hn] at r3 r4 ⊢; have HNL : Hid (LS.length = n) := Lib.hid (by rw [hn, ← p2, List.length_map]); have HPERM := Lib.hid p1; have HIDS := Lib.hid p2; have HI2 := Lib.hid r2; have HKV := Lib.hid r3; have HKO := Lib.hid r4; have HB2 := Lib.hid (below_thenB HB1.out HB1.out.size r5); obtain ⟨F0, hF0⟩ : ∃ F : Nat → Prop, ∀ q, F q ↔ (q < w2.heap.size ∧ q ≠ w.heap.size) := ⟨_, fun q => Iff.rfl⟩; have HF0 := Lib.hid hF0; have HWF2 : Hid (WrF w2 w.heap.size F0 []) := Lib.hid ⟨_, HW1.out.kept r5, fun h => ((hF0 _).1 h).2 rfl, fun q e => by cases e⟩; clear hF0 r1 r2 r3 r4 r5 p1 p2 hn)
  | (go_at_call 46; refine (wcount3 F0 w2 w.heap.size n [] HWF2.out (fun q h => ((HF0.out q).1 h).1) (by decide) (by have := HPERM.out.length_eq; have := HNL.out; have := HN.out; omega)).mono ?_; rintro e w3 ⟨rfl, r1, r2⟩; have HW3 := Lib.hid r1; have HK3 := Lib.hid r2; clear r1 r2))
 have hn1 : n ≤ 100000 := by have := HPERM.out.length_eq; have := HNL.out; have := HN.out; omega
 obtain ⟨g, hg⟩ : ∃ g, g = w.heap.size := ⟨_, rfl⟩
 have HG := Lib.hid hg
 rw [← hg] at HW3 ⊢
 clear hg HWF2 HW1
 have HFF : Hid (∀ wq wr : World, Below w.heap.size w wq → Kp (fun q => ¬ F0 q) wq wr → w2.heap.size ≤ wq.heap.size → Below w.heap.size w wr) := Lib.hid (fun wq wr h1 h2 h3 => low_own h1 h2 (fun i hi e => e ((HF0.out i).2 ⟨Nat.lt_of_lt_of_le hi HB2.out.size, by omega⟩)))
 have HB3 : Hid (Below w.heap.size w w3) := Lib.hid (HFF.out w2 w3 HB2.out HK3.out (Nat.le_refl _))
 have HKVF : Hid (∀ q, (Value.slice Av n cv).ownBlock = some q → F0 q) := Lib.hid (fun q e => (HF0.out q).2 ⟨HKV.out.lt e, by have := HKO.out q e; have := HB1.out.size; have h9 := HW3.out.lt; have := HG.out; have h8 : w.heap.size < w1.heap.size := HG1L.out; omega⟩)
 have HKV3 := Lib.hid (HKV.out.kp HK3.out (fun q hq e => e (HKVF.out q hq)))
 have HNW := Lib.hid HNL.out
 obtain ⟨EL, hEL⟩ : ∃ l, l = LS.map (·.e) := ⟨_, rfl⟩
 have HEL := Lib.hid hEL
 have HTOT : Hid (∀ i (hi : i < LS.length), (uv n ++ (EL.take i).flatMap encR).length + (encR LS[i].e).length ≤ 1000000) := Lib.hid (fun i hi => by
  have h1 := HLEN.out EL (by rw [hEL]; exact HPERM.out.map _)
  have h2 : EL = EL.take i ++ LS[i].e :: EL.drop (i + 1) := by
   have h9 := (List.take_append_drop i EL).symm
   have hie : i < EL.length := by rw [hEL, List.length_map]; exact hi
   have hE : EL[i] = LS[i].e := by simp only [hEL, List.getElem_map]
   rw [List.drop_eq_getElem_cons hie, hE] at h9
   exact h9
  have h3 : encE EL = uv n ++ ((EL.take i).flatMap encR ++ (encR LS[i].e ++ (EL.drop (i + 1)).flatMap encR)) := by
   have h8 : EL.length = n := by rw [hEL, List.length_map, HNL.out]
   unfold encE
   rw [h8]
   conv => lhs; rw [h2]
   rw [List.flatMap_append, List.flatMap_cons]
  rw [h3] at h1
  simp only [List.length_append] at h1 ⊢
  omega)
 clear hEL
 go_loopw [23] (fun iv wr => ∃ i : Nat, i ≤ n ∧ iv = .int .i64 (i : Int) ∧ Hid (WrF wr g F0 (uv n ++ (EL.take i).flatMap encR)) ∧ Hid (RW wr 39 2 (.slice Av n cv) n (ids.flatMap pidC)) ∧ Hid (Below w.heap.size w wr) ∧ Hid (w2.heap.size ≤ wr.heap.size)) (fun iv _ => n - (intOf iv).toNat)
 case atStart => exact ⟨0, by omega, rfl, Lib.hid (by have h9 := HW3.out; simpa using h9), HKV3, HB3, Lib.hid HK3.out.size⟩
 case round =>
  obtain ⟨i, hi, rfl, hwf, hkv, hb, hz⟩ := hrel
  obtain ⟨wx, hwx⟩ : ∃ x, x = wr := ⟨_, rfl⟩
  rw [← hwx] at hwf hkv hb hz ⊢
  clear hwx
  by_cases hik : i < n
  ·
   have hil : i < LS.length := by rw [HNL.out]; exact hik
   have hip : i < ids.length := by rw [← HIDS.out, List.length_map]; exact hil
   obtain ⟨g', o', c', e, _, hat⟩ := hkv.out.at_ (by omega)
   cases e
   obtain ⟨x, hx⟩ : ∃ x, x = LS[i] := ⟨_, rfl⟩
   have hxm : x ∈ L := HPERM.out.subset (by rw [hx]; exact List.getElem_mem hil)
   have HAT := Lib.hid (At.elem (f := pidC) pidC_len hat hip)
   have hid9 : ids[i] = idE x.e := by simp only [← HIDS.out, List.getElem_map, hx]
   rw [hid9] at HAT
   have HTT := Lib.hid (HTOT.out i hil)
   rw [← hx] at HTT
   have HTK : Hid (EL.take (i + 1) = EL.take i ++ [x.e]) := Lib.hid (by
    have hie : i < EL.length := by rw [HEL.out, List.length_map]; exact hil
    have hE : EL[i] = x.e := by simp only [HEL.out, List.getElem_map, hx]
    rw [List.take_succ_eq_append_getElem hie, hE])
   have HGX := Lib.hid (HGD.out x hxm)
   have HSX := Lib.hid (HP.out.ok x hxm)
   have HFD : Hid (∀ z v f, Found (L.map seKV) (pidV x.e.s x.e.i) z v f → v = stV x.tv x.uv) := Lib.hid (fun z v f hf => HP.out.found hxm hf)
   clear hat hx hid9 hxm
   obtain ⟨⟨s, z, tk, us⟩, tv, uv'⟩ := x
   obtain ⟨A1, c1, e1, _⟩ := HSX.out.st.t.form
   obtain ⟨A2, c2, e2, _⟩ := HSX.out.st.u.form
   replace e1 : tv = .slice A1 tk.length c1 := e1
   replace e2 : uv' = .slice A2 us.length c2 := e2
   subst e1 e2
   have hz0 : 0 ≤ z := HGX.out.i0
   obtain ⟨zi, rfl⟩ : ∃ k : Nat, z = (k : Int) := ⟨z.toNat, by omega⟩
   have hzi : zi < 16 := by have h9 : (zi : Int) < 16 := HGX.out.i1; omega
   obtain ⟨p, hp⟩ : ∃ p, p = tk.length := ⟨_, rfl⟩
   obtain ⟨q, hq⟩ : ∃ p, p = us.length := ⟨_, rfl⟩
   have HT : Hid (RW w 109 2 (.slice A1 p c1) p (tk.flatMap scC)) := Lib.hid (by rw [hp]; exact HSX.out.st.t)
   have HU : Hid (RW w 9 1 (.slice A2 q c2) q (us.map usC)) := Lib.hid (by rw [hq]; exact HSX.out.st.u)
   have hpb : p ≤ 100000 := by rw [hp]; exact HSX.out.st.bt
   have hqb : q ≤ 100000 := by rw [hq]; exact HSX.out.st.bu
   have HKY := Lib.hid (keyPid s (zi : Int) HSX.out.ws HSX.out.wi)
   have HFD : Hid (∀ z v f, Found (L.map seKV) (pidV s (zi : Int)) z v f → v = stV (.slice A1 p c1) (.slice A2 q c2)) := Lib.hid (fun z v f hf => by rw [hp, hq]; exact HFD.out z v f hf)
   have HPL := Lib.hid hp
   have HQL := Lib.hid hq
   obtain ⟨Pre, hPre⟩ : ∃ l, l = uv n ++ (EL.take i).flatMap encR := ⟨_, rfl⟩
   rw [← hPre] at hwf HTT
   have HNXT : Hid (uv n ++ (EL.take (i + 1)).flatMap encR = Pre ++ s ++ uv (2 * zi) ++ uv p ++ encT tk ++ uv q ++ us.flatten) := Lib.hid (by
    rw [HTK.out, List.flatMap_append, ← List.append_assoc, ← hPre, hp, hq]
    simp [encR, List.append_assoc])
   have HLN : Hid (Pre.length + s.length + (uv (2 * zi)).length + (uv p).length + (encT tk).length + (uv q).length + us.flatten.length ≤ 1000000) := Lib.hid (by
    have h9 := HTT.out
    simp only [encR, List.length_append, ← hp, ← hq, Int.toNat_natCast] at h9
    omega)
   have HSL : Hid (s.length = 32) := Lib.hid HGX.out.s
   clear hp hq HTT hPre
   go_wp2_with (first
    | ((with_reducible show OpW 26); refine wpList_loadv _ rfl 39 (.tmp 25) rfl 2 (by kernel_rfl) g' (o' + i * 2) [.string (strB s), .int .i64 (zi : Int)] (by go_simp) HAT.out rfl ?_)
    | ((with_reducible show OpW 6); refine wpList_alloc _ rfl 39 rfl pidZ pidZero ?_; intro y1 a1 a2 a3; have HI1 := Lib.hid a1; have HX1 := Lib.hid a2; clear a1 a2 a3)
    | ((with_reducible show OpN); refine wpList_storev _ rfl 39 (.tmp 6) (.tmp 26) rfl 2 (by kernel_rfl) wx.heap.size 0 _ pidZ [.string (strB s), .int .i64 (zi : Int)] rfl rfl HI1.out rfl (one_val _ rfl) (by decide) ?_; intro y2 a1 a2 a3; have HI2' : Hid (BL y2 wx.heap.size 39 [.string (strB s), .int .i64 (zi : Int)]) := Lib.hid a1; have HX2 : Hid (Below wx.heap.size wx y2) := Lib.hid (low_own HX1.out a2 (fun i hi e => by omega)); clear a1 a2 a3))
   have HPG2 := Lib.hid (HP.out.kept (below_thenB hb.out hb.out.size HX2.out))
   have HC2 : Hid (∀ w', Below y2.heap.size y2 w' → w'.cell? ⟨gp, 0, none⟩ = some (.map (some gm)) ∧ Below y2.heap.size y2 w') := Lib.hid (fun w' hb => ⟨(HPG2.out.kept hb).p.get (j := 0) rfl, hb⟩)
   refine Text.wp_region_text (fun w' => w'.cell? ⟨gp, 0, none⟩ = some (.map (some gm)) ∧ Below y2.heap.size y2 w') [(0, 4), (1, 4), (2, 4), (3, 0), (4, 0), (5, 0), (6, 2), (7, 2)] (by kernel_rfl) (by kernel_rfl) (fun _ _ _ _ _ h => h) (HC2.out _ (Below.refl _ _).drew) ?_
   iterate 3 (refine Text.purek rfl rfl (fun K hK => ⟨_, fun w' => by go_simp <;> rfl, ?_⟩); go_simp; refine hK _ ?_; clear hK K)
   (refine Text.heldk rfl rfl (fun K hK => ⟨_, fun w' hw' => by go_simp <;> rfl, ?_⟩); go_simp; refine hK _ ?_; clear hK K)
   refine Text.heldk rfl rfl (fun K hK => ?_)
   refine ⟨_, fun w' hw' => exec_loadv 39 (.tmp 6) rfl 2 (by kernel_rfl) wx.heap.size 0 [.string (strB s), .int .i64 (zi : Int)] rfl (BL.all (HI2'.out.kept hw'.2)) rfl, ?_⟩
   go_simp
   refine hK _ ?_
   clear hK K
   refine Text.heldk rfl rfl (fun K hK => ?_)
   refine ⟨_, fun w' hw' => exec_look (.tmp 30) (.tmp 31) 92 39 80 rfl pidKeyed stMap (stV nilV nilV) stZero gm _ rfl (HPG2.out.kept hw'.2).m (pidV s (zi : Int)) rfl HKY.out (stV (.slice A1 p c1) (.slice A2 q c2)) (fun v f hf => HFD.out _ v f hf), ?_⟩
   go_simp
   refine hK _ ?_
   clear hK K
   refine Text.eff rfl rfl (fun K hK => ?_)
   refine wp_alloc 80 rfl [nilV, nilV] stZero' ?_
   intro y3 a1 a2 a3
   have HS3 := Lib.hid a1
   have HX3 : Hid (Below y2.heap.size y2 y3) := Lib.hid (below_then (Below.refl _ _).drew (a2.mono (Nat.le_refl _)))
   refine hK _ _ (HC2.out _ HX3.out) ?_
   clear hK K a1 a2 a3
   refine Text.eff rfl rfl (fun K hK => ?_)
   refine wp_storev 80 (.tmp 7) (.tmp 32) rfl 2 (by kernel_rfl) y2.heap.size 0 _ [nilV, nilV] [.slice A1 p c1, .slice A2 q c2] rfl rfl HS3.out rfl (one_val _ rfl) (by decide) ?_
   intro y4 a1 a2 a3
   have HS4 : Hid (BL y4 y2.heap.size 80 [.slice A1 p c1, .slice A2 q c2]) := Lib.hid a1
   have HX4 : Hid (Below y2.heap.size y2 y4) := Lib.hid (low_own HX3.out a2 (fun i hi e => by omega))
   refine hK _ _ (HC2.out _ HX4.out) ?_
   clear hK K a1 a2 a3
   refine Text.done ?_
   have HXY : Hid (Below wx.heap.size wx y4) := Lib.hid (below_thenB HX2.out HX2.out.size HX4.out)
   have HI4 := Lib.hid (HI2'.out.kept HX4.out)
   obtain ⟨F1, hF1⟩ : ∃ F : Nat → Prop, ∀ b, F b ↔ (F0 b ∨ (wx.heap.size ≤ b ∧ b < y4.heap.size)) := ⟨_, fun b => Iff.rfl⟩
   have HF1 := Lib.hid hF1
   have HW4 : Hid (WrF y4 g F1 Pre) := Lib.hid ((hwf.out.add HXY.out).mono (fun b h => (hF1 b).1 h))
   have HFB : Hid (∀ b, F1 b → b < y4.heap.size) := Lib.hid (fun b h => ((hF1 b).1 h).elim (fun h => by have := ((HF0.out b).1 h).1; have := hz.out; have := HXY.out.size; omega) (·.2))
   have HGI : Hid (F1 wx.heap.size ∧ F1 y2.heap.size) := Lib.hid ⟨(hF1 _).2 (.inr ⟨Nat.le_refl _, HI4.out.lt⟩), (hF1 _).2 (.inr ⟨HX2.out.size, HS4.out.lt⟩)⟩
   have HK01 : Hid (∀ b, ¬ F1 b → ¬ F0 b) := Lib.hid (fun b h h9 => h ((hF1 b).2 (.inl h9)))
   have HB4 : Hid (Below w.heap.size w y4) := Lib.hid (below_thenB hb.out hb.out.size HXY.out)
   have HKV4 := Lib.hid (hkv.out.kept HXY.out)
   have qs := HI4.out.get (j := 0) rfl
   clear hF1 HI1 HX1 HS3 HX3 HC2 HPG2
   go_wp2_with (first
    | (go_at_call 47; refine (wsum3 F1 y4 g Pre s HW4.out HFB.out (by have := HLN.out; omega) HSL.out).mono ?_; rintro e y5 ⟨rfl, r1, r2⟩; have HW5 := Lib.hid r1; have HK5 := Lib.hid r2; have q5 := (r2.bl HI4.out (fun h => h HGI.out.1)).get (j := 1) rfl; clear r1 r2)
    | (go_at_call 48; refine (wint3 F1 y5 g zi (Pre ++ s) HW5.out (fun b h => Nat.lt_of_lt_of_le (HFB.out b h) HK5.out.size) (by have := HLN.out; rw [List.length_append]; omega) (by omega)).mono ?_; rintro e y6 ⟨rfl, r1, r2⟩; have HW6 := Lib.hid r1; have HK6 := Lib.hid (HK5.out.trans r2); have q6 := (HK6.out.bl HS4.out (fun h => h HGI.out.2)).get (j := 0) rfl; clear r1 r2)
    | (go_at_call 46; refine (wcount3 F1 y6 g p (Pre ++ s ++ uv (2 * zi)) HW6.out (fun b h => Nat.lt_of_lt_of_le (HFB.out b h) HK6.out.size) (by have := HLN.out; simp only [List.length_append]; omega) (by omega)).mono ?_; rintro e y7 ⟨rfl, r1, r2⟩; have HW7 := Lib.hid r1; have HK7 := Lib.hid (HK6.out.trans r2); have q7 := (HK7.out.bl HS4.out (fun h => h HGI.out.2)).get (j := 0) rfl; clear r1 r2))
   have HB7 : Hid (Below w.heap.size w y7) := Lib.hid (HFF.out y4 y7 HB4.out (HK7.out.mono (fun b hb h => HK01.out b h)) (by have := hz.out; have := HXY.out.size; omega))
   have HKV7 := Lib.hid (HKV4.out.kp HK7.out (fun b hb e => e ((HF1.out b).2 (.inl (HKVF.out b hb)))))
   obtain ⟨P7, hP7⟩ : ∃ l, l = Pre ++ s ++ uv (2 * zi) ++ uv p := ⟨_, rfl⟩
   have HP7 := Lib.hid hP7
   rw [← hP7] at HW7
   have HL7 : Hid (P7.length + (encT tk).length + (uv q).length + us.flatten.length ≤ 1000000) := Lib.hid (by have h9 := HLN.out; rw [hP7]; simp only [List.length_append]; omega)
   clear hP7 HW5 HK5 HW6 HK6 q5 q6 qs
   go_loopw [49] (fun iv wr => ∃ j : Nat, j ≤ p ∧ iv = .int .i64 (j : Int) ∧ Hid (WrF wr g F1 (P7 ++ encT (tk.take j))) ∧ Hid (Kp (fun b => ¬ F1 b) y4 wr)) (fun iv _ => p - (intOf iv).toNat)
   case atStart => exact ⟨0, by omega, rfl, Lib.hid (by have h9 := HW7.out; simpa [encT] using h9), HK7⟩
   case round =>
    obtain ⟨j, hj, rfl, hwj, hkj⟩ := hrel
    obtain ⟨wy, hwy⟩ : ∃ x, x = wr := ⟨_, rfl⟩
    rw [← hwy] at hwj hkj ⊢
    clear hwy
    have HBY : Hid (Below w.heap.size w wy) := Lib.hid (HFF.out y4 wy HB4.out (hkj.out.mono (fun b hb h => HK01.out b h)) (by have := hz.out; have := HXY.out.size; omega))
    by_cases hjp : j < p
    ·
     have hjl : j < tk.length := by rw [← HPL.out]; exact hjp
     obtain ⟨ga, oa, ca, e, _, hat⟩ := HT.out.at_ (by omega)
     cases e
     obtain ⟨x, hx⟩ : ∃ x, x = tk[j] := ⟨_, rfl⟩
     have HAT := Lib.hid ((At.elem (f := scC) scC_length hat hjl).kept HBY.out)
     rw [← hx] at HAT
     have HTK : Hid (encT (tk.take (j + 1)) = encT (tk.take j) ++ x.1 ++ x.2) := Lib.hid (by rw [List.take_succ_eq_append_getElem hjl, ← hx]; simp [encT])
     have HTL : Hid ((encT (tk.take j)).length + x.1.length + x.2.length ≤ (encT tk).length) := Lib.hid (by have h9 := encT_take tk (j + 1); rw [HTK.out] at h9; simp only [List.length_append] at h9; omega)
     have HX32 : Hid (x.1.length = 32 ∧ x.2.length = 32) := Lib.hid (HGX.out.t x (by rw [hx]; exact List.getElem_mem hjl))
     clear hat hx
     obtain ⟨a, b⟩ := x
     go_wp2_with (first
      | ((with_reducible show OpW 52); refine wpList_loadv _ rfl 109 (.tmp 51) rfl 2 (by kernel_rfl) ga (oa + j * 2) [.string (strB a), .string (strB b)] (by go_simp) HAT.out rfl ?_)
      | ((with_reducible show OpW 9); refine wpList_alloc _ rfl 109 rfl scZ scZero ?_; intro z1 a1 a2 a3; have HS1 := Lib.hid a1; have HZ1 := Lib.hid a2; clear a1 a2 a3)
      | ((with_reducible show OpN); refine wpList_storev _ rfl 109 (.tmp 9) (.tmp 52) rfl 2 (by kernel_rfl) wy.heap.size 0 _ scZ [.string (strB a), .string (strB b)] rfl rfl HS1.out rfl (one_val _ rfl) (by decide) ?_; intro z2 a1 a2 a3; have HS2 : Hid (BL z2 wy.heap.size 109 [.string (strB a), .string (strB b)]) := Lib.hid a1; have HZ2 : Hid (Below wy.heap.size wy z2) := Lib.hid (low_own HZ1.out a2 (fun i hi e => by omega)); have q0 := HS2.out.get (j := 0) rfl; have HW2 := Lib.hid (hwj.out.add HZ2.out); clear a1 a2 a3)
      | (go_at_call 47; (with_reducible show Calls _ _ _ z2 _); refine (wsum3 (fun b => F1 b ∨ (wy.heap.size ≤ b ∧ b < z2.heap.size)) z2 g (P7 ++ encT (tk.take j)) a HW2.out (fun b h => h.elim (fun h => by have := HFB.out b h; have := hkj.out.size; have := HZ2.out.size; omega) (·.2)) (by have := HL7.out; have := HTL.out; simp only [List.length_append]; omega) HX32.out.1).mono ?_; rintro e z3 ⟨rfl, r1, r2⟩; have HW3' := Lib.hid r1; have HK3' := Lib.hid r2; have q1 := (r2.bl HS2.out (fun h => h (.inr ⟨Nat.le_refl _, HS2.out.lt⟩))).get (j := 1) rfl; clear r1 r2)
      | (go_at_call 47; refine (wsum3 (fun b => F1 b ∨ (wy.heap.size ≤ b ∧ b < z2.heap.size)) z3 g (P7 ++ encT (tk.take j) ++ a) b HW3'.out (fun b h => Nat.lt_of_lt_of_le (h.elim (fun h => by have := HFB.out b h; have := hkj.out.size; have := HZ2.out.size; omega) (·.2)) HK3'.out.size) (by have := HL7.out; have := HTL.out; have := HX32.out; simp only [List.length_append]; omega) HX32.out.2).mono ?_; rintro e z4 ⟨rfl, r1, r2⟩; have HW4' := Lib.hid r1; have HK4' := Lib.hid r2; clear r1 r2))
     go_roundw
     case rel =>
      refine ⟨j + 1, by omega, by go_num, Lib.hid ?_, Lib.hid (hkj.out.after ((Kp.of_below HZ2.out).trans (HK3'.out.trans HK4'.out)) (fun i hi e h9 => e (.inl h9)))⟩
      have h9 := HW4'.out.mono (F' := F1) (fun b h => .inl h)
      rw [HTK.out, ← List.append_assoc, ← List.append_assoc]
      exact h9
     case measure => simp [intOf]; omega
    ·
     obtain rfl : j = p := by omega
     have HTJ : Hid (tk.take j = tk) := Lib.hid (by rw [HPL.out, List.take_length])
     rw [HTJ.out] at hwj
     have r6 := (hkj.out.bl HS4.out (fun h => h HGI.out.2)).get (j := 1) rfl
     have HSY := Lib.hid (hkj.out.bl HS4.out (fun h => h HGI.out.2))
     clear HTJ
     go_wp2_with (first
      | (go_at_call 46; refine (wcount3 F1 wy g q (P7 ++ encT tk) hwj.out (fun b h => Nat.lt_of_lt_of_le (HFB.out b h) hkj.out.size) (by have := HL7.out; simp only [List.length_append]; omega) (by omega)).mono ?_; rintro e y8 ⟨rfl, r1, r2⟩; have HW8 := Lib.hid r1; have HK8 := Lib.hid (hkj.out.trans r2); have r7 := (r2.bl HSY.out (fun h => h HGI.out.2)).get (j := 1) rfl; clear r1 r2))
     go_loopw [70] (fun iv wr => ∃ j : Nat, j ≤ q ∧ iv = .int .i64 (j : Int) ∧ Hid (WrF wr g F1 (P7 ++ encT tk ++ uv q ++ (us.take j).flatten)) ∧ Hid (Kp (fun b => ¬ F1 b) y4 wr)) (fun iv _ => q - (intOf iv).toNat)
     case atStart => exact ⟨0, by omega, rfl, Lib.hid (by have h9 := HW8.out; simpa using h9), HK8⟩
     case round =>
      obtain ⟨m, hm, rfl, hwm, hkm⟩ := hrel
      obtain ⟨wu, hwu⟩ : ∃ x, x = wr := ⟨_, rfl⟩
      rw [← hwu] at hwm hkm ⊢
      clear hwu
      have HBU : Hid (Below w.heap.size w wu) := Lib.hid (HFF.out y4 wu HB4.out (hkm.out.mono (fun b hb h => HK01.out b h)) (by have := hz.out; have := HXY.out.size; omega))
      by_cases hmq : m < q
      ·
       have hml : m < us.length := by rw [← HQL.out]; exact hmq
       obtain ⟨ga, oa, ca, e, _, hat⟩ := HU.out.at_ (by omega)
       cases e
       obtain ⟨x, hx⟩ : ∃ x, x = us[m] := ⟨_, rfl⟩
       have cx : wu.cell? ⟨ga, oa + m, none⟩ = some (.string (strB x)) := (hat.kept HBU.out) m _ (by rw [List.getElem?_map, List.getElem?_eq_getElem hml, hx]; rfl)
       have HTK : Hid ((us.take (m + 1)).flatten = (us.take m).flatten ++ x) := Lib.hid (by rw [List.take_succ_eq_append_getElem hml, ← hx]; simp)
       have HTL : Hid ((us.take m).flatten.length + x.length ≤ us.flatten.length) := Lib.hid (by have h9 := flatU_take us (m + 1); rw [HTK.out] at h9; simp only [List.length_append] at h9; omega)
       have HX32 : Hid (x.length = 32) := Lib.hid (HGX.out.u x (by rw [hx]; exact List.getElem_mem hml))
       clear hat hx
       go_wp2_with (first
        | (go_at_call 47; refine (wsum3 F1 wu g (P7 ++ encT tk ++ uv q ++ (us.take m).flatten) x hwm.out (fun b h => Nat.lt_of_lt_of_le (HFB.out b h) hkm.out.size) (by have := HL7.out; have := HTL.out; simp only [List.length_append]; omega) HX32.out).mono ?_; rintro e z4 ⟨rfl, r1, r2⟩; have HW4' := Lib.hid r1; have HK4' := Lib.hid r2; clear r1 r2))
       go_roundw
       case rel =>
        refine ⟨m + 1, by omega, by go_num, Lib.hid ?_, Lib.hid (hkm.out.trans HK4'.out)⟩
        rw [HTK.out, ← List.append_assoc]
        exact HW4'.out
       case measure => simp [intOf]; omega
      ·
       obtain rfl : m = q := by omega
       have HWE : Hid (WrF wu g F0 (uv n ++ (EL.take (i + 1)).flatMap encR)) := Lib.hid (by
        have h9 := hwm.out.mono (F' := F0) (fun b h => (HF1.out b).2 (.inl h))
        rw [HQL.out, List.take_length, ← HQL.out] at h9
        rw [HNXT.out, ← HP7.out]
        exact h9)
       have HKVE := Lib.hid (HKV4.out.kp hkm.out (fun b hb e => e ((HF1.out b).2 (.inl (HKVF.out b hb)))))
       have HZE : Hid (w2.heap.size ≤ wu.heap.size) := Lib.hid (Nat.le_trans hz.out (Nat.le_trans HXY.out.size hkm.out.size))
       clear hwm HNXT
       go_wp2_with fail
       go_roundw
       case rel => exact ⟨i + 1, by omega, by go_num, HWE, HKVE, HBU, HZE⟩
       case measure => simp [intOf]; omega
  ·
   obtain rfl : i = n := by omega
   have HFIN : Hid (uv i ++ (EL.take i).flatMap encR = encE EL) := Lib.hid (by
    have h8 : EL.length = i := by rw [HEL.out, List.length_map, HNL.out]
    unfold encE
    rw [h8, ← h8, List.take_length])
   rw [HFIN.out] at hwf
   have HBD : Hid ((encE EL).length ≤ 1048576) := Lib.hid (by have h9 := HLEN.out EL (by rw [HEL.out]; exact HPERM.out.map _); omega)
   obtain ⟨v9, hk9, _⟩ := hwf.out
   have HK9 := Lib.hid hk9
   clear hk9
   go_wp2_with (first
    | (go_at_call 49; refine (wdone2 wx g v9 (encE EL) HK9.out HBD.out).mono ?_; rintro e y9 ⟨A9, n9, c9, rfl, r1, r2⟩; have HR9 := Lib.hid r1; have HX9 := Lib.hid (below_thenB hb.out hb.out.size r2); clear r1 r2))
   go_ret
   refine ⟨A9, n9, c9, LS, rfl, HPERM.out, ?_, by rw [← HEL.out]; exact HR9.out, HX9.out⟩
   have h9 : (LS.map fun x => idE x.e) = ids := HIDS.out
   rw [h9]
   refine sorted_lt ?_ HI2.out
   rw [← h9]
   exact (HPERM.out.map fun x : Se => idE x.e).nodup_iff.2 HP.out.nodup
end Go.Proofs.YtheijpjfpaghfaaGreatDoor
/- What is decoded without an error encodes to the same bytes. -/
namespace Go.Proofs.YtheijpjfpaghfaaGreatDoor
open Go Gf Sha

theorem encE_perm {l m : List En} (h : l.Perm m) : (encE l).length = (encE m).length := by
 have h1 : (l.flatMap encR).Perm (m.flatMap encR) := h.flatMap_right encR
 unfold encE
 rw [List.length_append, List.length_append, h.length_eq, h1.length_eq]
end Go.Proofs.YtheijpjfpaghfaaGreatDoor
