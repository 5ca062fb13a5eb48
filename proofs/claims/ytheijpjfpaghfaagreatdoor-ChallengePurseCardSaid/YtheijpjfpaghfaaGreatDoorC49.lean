/- Several texts in one: Jc. -/
import Derived.Test.YtheijpjfpaghfaaGreatDoorC48
import Derived.Test.YtheijpjfpaghfaaGreatDoorC44
/- The reference's Add. -/
namespace Go.Proofs.YtheijpjfpaghfaaGreatDoor
open Go Go.RowKit Gf Sha

/-- What the reference's Add leaves. -/
def RAdd (w : World) (v : Value) (rs : List Se) (xs : List PT) (e : Ending) (w' : World) : Prop :=
 ∃ v' rs', e = .returned (.tuple #[v', .int .i64 (adX (rs.map (·.e)) xs)]) ∧ RLp w' v' rs' ∧ rs'.map (·.e) = (if adX (rs.map (·.e)) xs = 0 then addE (rs.map (·.e)) xs else rs.map (·.e)) ∧ (∀ b, RB v' rs' b → RB v rs b ∨ w.heap.size ≤ b) ∧ Below w.heap.size w w'
theorem RAdd.bad {w w' : World} {v : Value} {rs : List Se} {xs : List PT} {z : Int} (hz : adX (rs.map (·.e)) xs = z) (h0 : z ≠ 0) (h : RLp w v rs) (hb : Below w.heap.size w w') : RAdd w v rs xs (.returned (.tuple #[v, .int .i64 z])) w' :=
 ⟨v, rs, by rw [hz], h.kept hb, by rw [hz, if_neg h0], fun b hb => .inl hb, hb⟩
theorem bslTok0 (w : World) : (Instr.buildSlice 37 0 #[]).run Tryz.prog w = .ok (.slice (some ⟨w.heap.size, 0, none⟩) 0 0) (w.alloc (.cells ([] : List Value).toArray 45)) := by kernel_rfl
theorem flat_one (s : List UInt8) (i : Int) (tk : List Sc) : ∀ v ∈ tk.flatMap (tokC s i), v.oneCell' = true := fun v hv => by
 obtain ⟨x, _, hx⟩ := List.mem_flatMap.1 hv
 exact tokC_one s i x v hx
theorem adX_inv {l : List En} {xs : List PT} {k : Nat} (hk : k < xs.length) (h : vtkB xs[k].1.1 xs[k].1.2 xs[k].2 = false) : adX l xs = 1 := by
 unfold adX
 rw [if_neg]
 intro h9
 have := List.all_eq_true.1 h9 xs[k] (List.getElem_mem hk)
 rw [h] at this
 cases this
theorem vtA_all {xs : List PT} (h : ∀ k, (hk : k < xs.length) → vtkB xs[k].1.1 xs[k].1.2 xs[k].2 = true) : vtA xs = true := by
 unfold vtA
 rw [List.all_eq_true]
 intro t ht
 obtain ⟨k, hk, rfl⟩ := List.getElem_of_mem ht
 exact h k hk
set_option maxRecDepth 100000 in
set_option maxHeartbeats 8000000 in
theorem radd_any (w : World) (v : Value) (rs : List Se) (A : Option Addr) (n c : Nat) (xs : List PT) (h : RLp w v rs) (hx : LS rTk 4 56 w A n c xs) (hn : rs.length ≤ 4096) (hsz : sizeE (rs.map (·.e)) ≤ 4096) (hnd : ((rs.map (·.e)).map idE).Nodup) (hnx : n ≤ 1000) :
  Calls Tryz.prog 11 #[v, .slice A n c] w (RAdd w v rs xs) := by
 obtain ⟨Av, cv, ev, _⟩ := h.row.form
 obtain ⟨m, hm⟩ : ∃ m, m = rs.length := ⟨_, rfl⟩
 rw [← hm] at ev
 have H := Lib.hid h
 obtain ⟨V, hV⟩ : ∃ V, V = v := ⟨_, rfl⟩
 rw [← hV] at H ⊢
 subst hV
 subst ev
 have HX := Lib.hid hx
 have HXL := Lib.hid hx.1
 have HN := Lib.hid hn
 have HSZ0 := Lib.hid hsz
 have HND := Lib.hid hnd
 clear h hx hn hsz hnd hm
 go_enter Tryz.func11, Tryz.ntmps11
 go_wp2_with fail
 go_loopw [14] (fun iv wr => ∃ k : Nat, k ≤ n ∧ iv = .int .i64 (k : Int) ∧ Hid (∀ j, (hj : j < xs.length) → j < k → vtkB xs[j].1.1 xs[j].1.2 xs[j].2 = true) ∧ Hid (Below w.heap.size w wr)) (fun iv _ => n - (intOf iv).toNat)
 case atStart => exact ⟨0, by omega, rfl, Lib.hid (fun j _ h => absurd h (by omega)), Lib.hid (Below.refl _ _)⟩
 case round =>
  obtain ⟨k, hk, rfl, hall, hb⟩ := hrel
  obtain ⟨wx, hwx⟩ : ∃ x, x = wr := ⟨_, rfl⟩
  rw [← hwx] at hb ⊢
  clear hwx
  by_cases hlt : k < n
  ·
   obtain ⟨t, g, o, cs, ht, rfl, hat, hr⟩ := HX.out.at_ stay_tk hb.out hlt
   have hkl : k < xs.length := by rw [HXL.out]; exact hlt
   have hte : xs[k] = t := by rw [List.getElem?_eq_getElem hkl] at ht; injection ht
   obtain rfl := hr.1
   obtain ⟨⟨s, i⟩, ⟨ya, yb⟩⟩ := t
   have HAT : Hid (At wx g (o + k * 4) (tokC s i (ya, yb))) := Lib.hid hat
   obtain ⟨B, hB⟩ : ∃ B, B = vtkB s i (ya, yb) := ⟨_, rfl⟩
   have HB : Hid (vtkB s i (ya, yb) = B) := Lib.hid hB.symm
   have HBAD : Hid (B = false → adX (rs.map (·.e)) xs = 1) := Lib.hid (fun h9 => adX_inv hkl (by rw [hte]; rw [← h9, hB]))
   have HOK : Hid (B = true → ∀ j, (hj : j < xs.length) → j < k + 1 → vtkB xs[j].1.1 xs[j].1.2 xs[j].2 = true) := Lib.hid (fun h9 j hj hjk => by
    by_cases hjk2 : j < k
    ·
     exact hall.out j hj hjk2
    ·
     obtain rfl : j = k := by omega
     rw [hte]
     rw [← h9, hB])
   clear hB hat hr ht hte hkl hall
   cases B with
   | false =>
    go_wp2_with (first
     | ((with_reducible show OpW 17); refine wpList_loadv _ rfl 45 (.tmp 16) rfl 4 (by kernel_rfl) g (o + k * 4) (tokC s i (ya, yb)) (by go_simp) HAT.out rfl ?_)
     | ((with_reducible show OpW 7); refine wpList_alloc _ rfl 45 rfl tokZ tokZero' ?_; intro y1 a1 a2 a3; have HT1 := Lib.hid a1; have HX1 := Lib.hid a2; clear a1 a2 a3)
     | ((with_reducible show OpN); refine wpList_storev _ rfl 45 (.tmp 7) (.tmp 17) rfl 4 (by kernel_rfl) wx.heap.size 0 _ tokZ (tokC s i (ya, yb)) rfl rfl HT1.out rfl (tokC_one _ _ _) (by decide) ?_; intro y2 a1 a2 a3; have HT2 : Hid (BL y2 wx.heap.size 45 (tokC s i (ya, yb))) := Lib.hid a1; have HX2 : Hid (Below wx.heap.size wx y2) := Lib.hid (low_own HX1.out a2 (fun i hi e => by omega)); clear a1 a2 a3)
     | ((with_reducible show OpW 18); refine wpList_loadv _ rfl 45 (.tmp 7) rfl 4 (by kernel_rfl) wx.heap.size 0 (tokC s i (ya, yb)) rfl (BL.all HT2.out) rfl ?_)
     | (go_at_call 50; refine (rvtok_any s i (ya, yb) y2).mono ?_; rintro e y3 ⟨rfl, b1⟩; rw [HB.out]; have HX3 := Lib.hid (below_thenB HX2.out HX2.out.size b1); clear b1))
    go_ret2
    exact RAdd.bad (HBAD.out (by trivial)) (by decide) H.out (below_thenB hb.out hb.out.size HX3.out)
   | true =>
    go_wp2_with (first
     | ((with_reducible show OpW 17); refine wpList_loadv _ rfl 45 (.tmp 16) rfl 4 (by kernel_rfl) g (o + k * 4) (tokC s i (ya, yb)) (by go_simp) HAT.out rfl ?_)
     | ((with_reducible show OpW 7); refine wpList_alloc _ rfl 45 rfl tokZ tokZero' ?_; intro y1 a1 a2 a3; have HT1 := Lib.hid a1; have HX1 := Lib.hid a2; clear a1 a2 a3)
     | ((with_reducible show OpN); refine wpList_storev _ rfl 45 (.tmp 7) (.tmp 17) rfl 4 (by kernel_rfl) wx.heap.size 0 _ tokZ (tokC s i (ya, yb)) rfl rfl HT1.out rfl (tokC_one _ _ _) (by decide) ?_; intro y2 a1 a2 a3; have HT2 : Hid (BL y2 wx.heap.size 45 (tokC s i (ya, yb))) := Lib.hid a1; have HX2 : Hid (Below wx.heap.size wx y2) := Lib.hid (low_own HX1.out a2 (fun i hi e => by omega)); clear a1 a2 a3)
     | ((with_reducible show OpW 18); refine wpList_loadv _ rfl 45 (.tmp 7) rfl 4 (by kernel_rfl) wx.heap.size 0 (tokC s i (ya, yb)) rfl (BL.all HT2.out) rfl ?_)
     | (go_at_call 50; refine (rvtok_any s i (ya, yb) y2).mono ?_; rintro e y3 ⟨rfl, b1⟩; rw [HB.out]; have HX3 := Lib.hid (below_thenB HX2.out HX2.out.size b1); clear b1))
    go_roundw
    case rel => exact ⟨k + 1, by omega, by go_num, Lib.hid (HOK.out (by trivial)), Lib.hid (below_thenB hb.out hb.out.size HX3.out)⟩
    case measure => simp [intOf]; omega
  ·
   obtain rfl : k = n := by omega
   have HVT : Hid (vtA xs = true) := Lib.hid (vtA_all (fun j hj => hall.out j hj (by rw [← HXL.out]; exact hj)))
   have HB0 := Lib.hid hb.out
   clear hall
   go_wp2_with fail
   go_loopw [8, 26] (fun ov iv wr => ∃ (j : Nat) (rj : List Se), j ≤ k ∧ iv = .int .i64 (j : Int) ∧ Hid (RLp wr ov rj) ∧ Hid (rj.map (·.e) = addE (rs.map (·.e)) (xs.take j)) ∧ Hid (dupB (rs.map (·.e)) xs = dupB (addE (rs.map (·.e)) (xs.take j)) (xs.drop j)) ∧ Hid (∀ b, RB ov rj b → RB (.slice Av m cv) rs b ∨ w.heap.size ≤ b) ∧ Hid (Below w.heap.size w wr)) (fun _ iv _ => k - (intOf iv).toNat)
   case atStart => exact ⟨0, rs, by omega, rfl, Lib.hid (H.out.kept HB0.out), Lib.hid (by rw [List.take_zero]; rfl), Lib.hid (by rw [List.take_zero, List.drop_zero]; rfl), Lib.hid (fun b hb => .inl hb), HB0⟩
   case round =>
    clear hb HB0
    obtain ⟨j, rj, hj, rfl, hrl, hrj, hdu, hrb, hb⟩ := hrel
    obtain ⟨wx, hwx⟩ : ∃ x, x = wr := ⟨_, rfl⟩
    rw [← hwx] at hrl hb ⊢
    clear hwx
    have HRJ : Hid (rj.length ≤ 100000) := Lib.hid (by
     have h1 := congrArg List.length hrj.out
     have h2 := addE_len (xs.take j) (rs.map (·.e))
     rw [List.length_map] at h1 h2
     rw [List.length_take] at h2
     have := HN.out
     omega)
    have HNJ : Hid (((addE (rs.map (·.e)) (xs.take j)).map idE).Nodup) := Lib.hid (addE_nodup _ HND.out)
    have HSJ : Hid (sizeE (addE (rs.map (·.e)) (xs.take j)) ≤ 6000) := Lib.hid (by
     rw [sizeE_addE _ HND.out, List.length_take]
     have := HSZ0.out
     omega)
    obtain ⟨Ao, co, eo, _⟩ := hrl.out.row.form
    subst eo
    by_cases hlt : j < k
    ·
     obtain ⟨t, g, o, cs, ht, rfl, hat, hr⟩ := HX.out.at_ stay_tk hb.out hlt
     have hjl : j < xs.length := by rw [HXL.out]; exact hlt
     have hte : xs[j] = t := by rw [List.getElem?_eq_getElem hjl] at ht; injection ht
     obtain rfl := hr.1
     obtain ⟨⟨s, i⟩, ⟨ya, yb⟩⟩ := t
     have HAT : Hid (At wx g (o + j * 4) (tokC s i (ya, yb))) := Lib.hid hat
     have HTE := Lib.hid (addE_take (l := rs.map (·.e)) hjl)
     rw [hte] at HTE
     obtain ⟨tk, us, hen⟩ := ofE_form (addE (rs.map (·.e)) (xs.take j)) (s, i)
     have HEN : Hid (ofE (rj.map (·.e)) (s, i) = ⟨s, i, tk, us⟩) := Lib.hid (by rw [hrj.out]; exact hen)
     have hos := ofE_size HNJ.out (s, i)
     rw [hen] at hos
     obtain ⟨p, hp⟩ : ∃ p, p = tk.length := ⟨_, rfl⟩
     obtain ⟨q, hq⟩ : ∃ q, q = us.length := ⟨_, rfl⟩
     have hpb : p ≤ 6000 := by have := HSJ.out; rw [hp]; simp only at hos; omega
     have hqb : q ≤ 6000 := by have := HSJ.out; rw [hq]; simp only at hos; omega
     have HP := Lib.hid hp
     have HQ := Lib.hid hq
     obtain ⟨B, hB⟩ : ∃ B, B = decide (ya ∈ us ++ tk.map (·.1)) := ⟨_, rfl⟩
     have HB : Hid (decide (ya ∈ us ++ tk.map (·.1)) = B) := Lib.hid hB.symm
     have HDU : Hid (dupB (rs.map (·.e)) xs = (B || dupB (addE (rs.map (·.e)) (xs.take (j + 1))) (xs.drop (j + 1)))) := Lib.hid (by
      rw [hdu.out, List.drop_eq_getElem_cons hjl, hte, dupB, HTE.out, hen, hB]
      rfl)
     have HADD : Hid (add1 (addE (rs.map (·.e)) (xs.take j)) ((s, i), (ya, yb)) = putE (rj.map (·.e)) ⟨s, i, tk ++ [(ya, yb)], us⟩) := Lib.hid (by
      rw [add1, hen, hrj.out]; rfl)
     clear hB hat hr ht hte hjl hen hos hp hq hdu
     cases B with
     | true =>
      have HBAD : Hid (adX (rs.map (·.e)) xs = 5) := Lib.hid (by rw [adX, if_pos HVT.out, if_pos (by rw [HDU.out]; rfl)])
      go_wp2_with (first
       | ((with_reducible show OpW 29); refine wpList_loadv _ rfl 45 (.tmp 28) rfl 4 (by kernel_rfl) g (o + j * 4) (tokC s i (ya, yb)) (by go_simp) HAT.out rfl ?_)
       | ((with_reducible show OpW 10); refine wpList_alloc _ rfl 45 rfl tokZ tokZero' ?_; intro y1 a1 a2 a3; have HT1 := Lib.hid a1; have HX1 := Lib.hid a2; clear a1 a2 a3)
       | ((with_reducible show OpN); refine wpList_storev _ rfl 45 (.tmp 10) (.tmp 29) rfl 4 (by kernel_rfl) wx.heap.size 0 _ tokZ (tokC s i (ya, yb)) rfl rfl HT1.out rfl (tokC_one _ _ _) (by decide) ?_; intro y2 a1 a2 a3; have HT2 : Hid (BL y2 wx.heap.size 45 (tokC s i (ya, yb))) := Lib.hid a1; have HX2 : Hid (Below wx.heap.size wx y2) := Lib.hid (low_own HX1.out a2 (fun i hi e => by omega)); clear a1 a2 a3)
       | ((with_reducible show OpW 32); refine wpList_loadv _ rfl 39 (.tmp 31) rfl 2 (by kernel_rfl) wx.heap.size 0 [.string (strB s), .int .i64 i] rfl (At.left (xs := [.string (strB ya), .string (strB yb)]) (BL.all HT2.out)) rfl ?_)
       | (go_at_call 20; refine (rof_any y2 _ rj s i (hrl.out.kept HX2.out) HRJ.out).mono ?_; rintro e y3 ⟨⟨en, tv, uv⟩, r1, rfl, r2, r3, r4⟩; replace r1 : en = ⟨s, i, tk, us⟩ := Eq.trans r1 HEN.out; subst r1; obtain ⟨A1, c1, e1, _⟩ := r2.t.form; replace e1 : tv = .slice A1 tk.length c1 := e1; obtain ⟨A2, c2, e2, _⟩ := r2.u.form; replace e2 : uv = .slice A2 us.length c2 := e2; rw [← HP.out] at e1; rw [← HQ.out] at e2; subst e1; subst e2; have hrt := r2.t; replace hrt : RW y3 45 4 (.slice A1 p c1) tk.length (tk.flatMap (tokC s i)) := hrt; rw [← HP.out] at hrt; have hru := r2.u; replace hru : RW y3 9 1 (.slice A2 q c2) us.length (us.map usC) := hru; rw [← HQ.out] at hru; have HTK3 := Lib.hid hrt; have HUS3 := Lib.hid hru; have HR3 := Lib.hid r3; have HX3 := Lib.hid (below_thenB HX2.out HX2.out.size r4); have HT3 := Lib.hid (HT2.out.kept r4); have HONE := Lib.hid (seC_onef r2); clear r2 r3 r4 hrt hru)
       | ((with_reducible show OpW 11); refine wpList_alloc _ rfl 54 rfl reZ reZeroF ?_; intro y4 a1 a2 a3; have HE4 := Lib.hid a1; have HX4 := Lib.hid a2; clear a1 a2 a3)
       | ((with_reducible show OpN); refine wpList_storev _ rfl 54 (.tmp 11) (.tmp 33) rfl 4 (by kernel_rfl) y3.heap.size 0 _ reZ [.string (strB s), .int .i64 i, .slice A1 p c1, .slice A2 q c2] rfl (by simp only [seC, HP.out, HQ.out]; rfl) HE4.out rfl (one_val _ rfl) (by decide) ?_; intro y5 a1 a2 a3; have HE5' : Hid (BL y5 y3.heap.size 54 [.string (strB s), .int .i64 i, .slice A1 p c1, .slice A2 q c2]) := Lib.hid a1; have HX5 : Hid (Below y3.heap.size y3 y5) := Lib.hid (low_own HX4.out a2 (fun i hi e => by omega)); have HT5 := Lib.hid (HT3.out.kept HX5.out); have q2 : y5.cell? ⟨wx.heap.size, 2, none⟩ = some (.string (strB ya)) := BL.get (l := tokC s i (ya, yb)) HT5.out (j := 2) rfl; clear a1 a2 a3)
       | ((with_reducible show OpW 34); refine wpList_loadv _ rfl 54 (.tmp 11) rfl 4 (by kernel_rfl) y3.heap.size 0 [.string (strB s), .int .i64 i, .slice A1 p c1, .slice A2 q c2] rfl (BL.all HE5'.out) rfl ?_)
       | (go_at_call 51; refine (rknows_any y5 s i _ _ s i tk us ya (by rw [← HP.out]; exact HTK3.out.kept HX5.out) (by rw [← HQ.out]; exact HUS3.out.kept HX5.out) (by rw [← HP.out]; omega) (by rw [← HQ.out]; omega)).mono ?_; rintro e y6 ⟨rfl, b1⟩; rw [HB.out]; have HX6 := Lib.hid (below_thenB HX5.out HX5.out.size b1); have HE6 := Lib.hid (HE5'.out.kept b1); have HT6 := Lib.hid (HT5.out.kept b1); clear b1 q2)
       | fail)
      go_ret2
      exact RAdd.bad HBAD.out (by decide) H.out (below_thenB hb.out hb.out.size (below_thenB HX3.out HX3.out.size HX6.out))
     | false =>
      go_wp2_with (first
       | ((with_reducible show OpW 29); refine wpList_loadv _ rfl 45 (.tmp 28) rfl 4 (by kernel_rfl) g (o + j * 4) (tokC s i (ya, yb)) (by go_simp) HAT.out rfl ?_)
       | ((with_reducible show OpW 10); refine wpList_alloc _ rfl 45 rfl tokZ tokZero' ?_; intro y1 a1 a2 a3; have HT1 := Lib.hid a1; have HX1 := Lib.hid a2; clear a1 a2 a3)
       | ((with_reducible show OpN); refine wpList_storev _ rfl 45 (.tmp 10) (.tmp 29) rfl 4 (by kernel_rfl) wx.heap.size 0 _ tokZ (tokC s i (ya, yb)) rfl rfl HT1.out rfl (tokC_one _ _ _) (by decide) ?_; intro y2 a1 a2 a3; have HT2 : Hid (BL y2 wx.heap.size 45 (tokC s i (ya, yb))) := Lib.hid a1; have HX2 : Hid (Below wx.heap.size wx y2) := Lib.hid (low_own HX1.out a2 (fun i hi e => by omega)); clear a1 a2 a3)
       | ((with_reducible show OpW 32); refine wpList_loadv _ rfl 39 (.tmp 31) rfl 2 (by kernel_rfl) wx.heap.size 0 [.string (strB s), .int .i64 i] rfl (At.left (xs := [.string (strB ya), .string (strB yb)]) (BL.all HT2.out)) rfl ?_)
       | (go_at_call 20; refine (rof_any y2 _ rj s i (hrl.out.kept HX2.out) HRJ.out).mono ?_; rintro e y3 ⟨⟨en, tv, uv⟩, r1, rfl, r2, r3, r4⟩; replace r1 : en = ⟨s, i, tk, us⟩ := Eq.trans r1 HEN.out; subst r1; obtain ⟨A1, c1, e1, _⟩ := r2.t.form; replace e1 : tv = .slice A1 tk.length c1 := e1; obtain ⟨A2, c2, e2, _⟩ := r2.u.form; replace e2 : uv = .slice A2 us.length c2 := e2; rw [← HP.out] at e1; rw [← HQ.out] at e2; subst e1; subst e2; have hrt := r2.t; replace hrt : RW y3 45 4 (.slice A1 p c1) tk.length (tk.flatMap (tokC s i)) := hrt; rw [← HP.out] at hrt; have hru := r2.u; replace hru : RW y3 9 1 (.slice A2 q c2) us.length (us.map usC) := hru; rw [← HQ.out] at hru; have HTK3 := Lib.hid hrt; have HUS3 := Lib.hid hru; have HR3 := Lib.hid r3; have HX3 := Lib.hid (below_thenB HX2.out HX2.out.size r4); have HT3 := Lib.hid (HT2.out.kept r4); have HONE := Lib.hid (seC_onef r2); clear r2 r3 r4 hrt hru)
       | ((with_reducible show OpW 11); refine wpList_alloc _ rfl 54 rfl reZ reZeroF ?_; intro y4 a1 a2 a3; have HE4 := Lib.hid a1; have HX4 := Lib.hid a2; clear a1 a2 a3)
       | ((with_reducible show OpN); refine wpList_storev _ rfl 54 (.tmp 11) (.tmp 33) rfl 4 (by kernel_rfl) y3.heap.size 0 _ reZ [.string (strB s), .int .i64 i, .slice A1 p c1, .slice A2 q c2] rfl (by simp only [seC, HP.out, HQ.out]; rfl) HE4.out rfl (one_val _ rfl) (by decide) ?_; intro y5 a1 a2 a3; have HE5' : Hid (BL y5 y3.heap.size 54 [.string (strB s), .int .i64 i, .slice A1 p c1, .slice A2 q c2]) := Lib.hid a1; have HX5 : Hid (Below y3.heap.size y3 y5) := Lib.hid (low_own HX4.out a2 (fun i hi e => by omega)); have HT5 := Lib.hid (HT3.out.kept HX5.out); have q2 : y5.cell? ⟨wx.heap.size, 2, none⟩ = some (.string (strB ya)) := BL.get (l := tokC s i (ya, yb)) HT5.out (j := 2) rfl; clear a1 a2 a3)
       | ((with_reducible show OpW 34); refine wpList_loadv _ rfl 54 (.tmp 11) rfl 4 (by kernel_rfl) y3.heap.size 0 [.string (strB s), .int .i64 i, .slice A1 p c1, .slice A2 q c2] rfl (BL.all HE5'.out) rfl ?_)
       | (go_at_call 51; refine (rknows_any y5 s i _ _ s i tk us ya (by rw [← HP.out]; exact HTK3.out.kept HX5.out) (by rw [← HQ.out]; exact HUS3.out.kept HX5.out) (by rw [← HP.out]; omega) (by rw [← HQ.out]; omega)).mono ?_; rintro e y6 ⟨rfl, b1⟩; rw [HB.out]; have HX6 := Lib.hid (below_thenB HX5.out HX5.out.size b1); have HE6 := Lib.hid (HE5'.out.kept b1); have HT6 := Lib.hid (HT5.out.kept b1); clear b1 q2)
       | fail)
      have HTK6 := Lib.hid (HTK3.out.kept HX6.out)
      have HUS6 := Lib.hid (HUS3.out.kept HX6.out)
      have HSZ : Hid (y3.heap.size < y6.heap.size ∧ wx.heap.size < y3.heap.size) := Lib.hid ⟨HE6.out.lt, HT3.out.lt⟩
      have HSS : Hid (∀ w', Below y6.heap.size y6 w' → w'.cell? ⟨y3.heap.size, 2, none⟩ = some (.slice A1 p c1) ∧ Below y6.heap.size y6 w') := Lib.hid (fun w' hb => ⟨(HE6.out.kept hb).get (j := 2) rfl, hb⟩)
      go_simp
      go_cut [45] (fun s45 wq => ∃ tv', Hid (BL wq y3.heap.size 54 [.string (strB s), .int .i64 i, tv', .slice A2 q c2]) ∧ Hid (RW wq 45 4 tv' (p + 1) ((tk ++ [(ya, yb)]).flatMap (tokC s i))) ∧ Hid (Kp (· = y3.heap.size) y6 wq) ∧ Hid (∀ b, tv'.ownBlock = some b → y6.heap.size ≤ b))
      case first =>
       refine TextL.wp_region_bt (fun w' => w'.cell? ⟨y3.heap.size, 2, none⟩ = some (.slice A1 p c1) ∧ Below y6.heap.size y6 w') (.still 1 4 (.still 2 0 (.still 4 0 (.br 0 (.br 3 (.eff 5 (.eff 6 (.still 7 4 (.last 8 .leaf)))) 5 (.eff 3 (.eff 6 (.still 7 4 (.last 8 .leaf))))) 5 (.eff 0 (.eff 3 (.eff 6 (.still 7 4 (.last 8 .leaf))))))))) (by kernel_rfl) (by kernel_rfl) (fun _ _ _ _ _ h => h) (HSS.out _ (Below.refl _ _).drew) ?_
       iterate 1 (refine TextL.bpurek rfl rfl (fun K hK => ⟨_, fun w' => by go_simp <;> rfl, ?_⟩); go_simp; refine hK _ ?_; clear hK K)
       iterate 1 (refine TextL.bheldk rfl rfl (fun K hK => ⟨_, fun w' hw' => by go_simp <;> rfl, ?_⟩); go_simp; refine hK _ ?_; clear hK K)
       refine TextL.bheldk rfl rfl (fun K hK => ?_)
       refine ⟨_, fun w' hw' => exec_loadv 45 (.tmp 10) rfl 4 (by kernel_rfl) wx.heap.size 0 (tokC s i (ya, yb)) rfl (BL.all (HT6.out.kept hw'.2)) rfl, ?_⟩
       go_simp
       refine hK _ ?_
       clear hK K
       refine TextL.bfork ?_ ?_
       ·
        refine TextL.beff rfl rfl (fun K hK => ?_)
        refine wp_bslice 37 45 0 _ rfl #[] (by rw [List.map_toArray]; rfl) [] (bslTok0 _) ?_
        intro z1 a1 a2 a3
        have HDz1 : Hid (Below y6.heap.size y6 z1) := Lib.hid (below_thenB ((Below.refl y6.heap.size y6).drew) (((Below.refl y6.heap.size y6).drew).size) a2)
        have HG0 : Hid (RW z1 45 4 (.slice (some ⟨y6.heap.size, 0, none⟩) 0 0) 0 []) := Lib.hid (RW.of_blk (l := []) a1 rfl (by decide))
        have HG0L : Hid (y6.heap.size ≤ y6.heap.size ∧ y6.heap.size < z1.heap.size) := Lib.hid ⟨((Below.refl y6.heap.size y6).drew).size, a1.lt⟩
        have HXE := Lib.hid a2
        refine hK _ _ (HSS.out _ HDz1.out) ?_
        clear hK K a1 a2 a3
        refine TextL.bfork ?_ ?_
        ·
         refine TextL.beff rfl rfl (fun K hK => ?_)
         obtain ⟨iS, i1, i2, i3, i4⟩ := info_some infoTk4
         refine wp_appRR (.tmp 39) (.tmp 41) 37 45 4 iS _ rfl Tryz.underlying37 i1 i2 i3 rfl y6.heap.size 0 0 0 [] rfl HG0.out A1 p c1 _ rfl (HTK6.out.kept HDz1.out) (flat_one s i tk) (by rw [i4]; omega) (by omega) ?_
         intro tvA z2 ap
         have HUA : Hid (RW z2 45 4 tvA p (tk.flatMap (tokC s i))) := Lib.hid (by have h9 := ap.row; rw [Nat.zero_add, List.nil_append] at h9; exact h9)
         have HUO : Hid (∀ b, tvA.ownBlock = some b → y6.heap.size ≤ b) := Lib.hid (fun b e => (ap.own b e).elim (fun h => by cases h; exact HG0L.out.1) (fun h => Nat.le_trans HDz1.out.size h))
         have HDz2 : Hid (Below y6.heap.size y6 z2) := Lib.hid (low_own HDz1.out ap.kp (fun j hj e => by have h9 : some y6.heap.size = some j := e; have := HG0L.out.1; injection h9 with h9; omega))
         have HKA := Lib.hid ap.kp
         refine hK _ _ (HSS.out _ HDz2.out) ?_
         clear hK K ap i1 i2 i3 i4
         refine TextL.beff rfl rfl (fun K hK => ?_)
         refine wp_bslice 37 45 1 _ rfl #[(0, .agg (tokC s i (ya, yb)).toArray)] (by rw [List.map_toArray]; rfl) (tokC s i (ya, yb)) (bslTok s ya yb i _) ?_
         intro z3 a1 a2 a3
         have HDz3 : Hid (Below y6.heap.size y6 z3) := Lib.hid (below_thenB (HDz2.out) ((HDz2.out).size) a2)
         have HN9 := Lib.hid a1
         have HX9 := Lib.hid a2
         refine hK _ _ (HSS.out _ HDz3.out) ?_
         clear hK K a1 a2 a3
         have HUB := Lib.hid (HUA.out.kept HX9.out)
         refine TextL.beff rfl rfl (fun K hK => ?_)
         obtain ⟨iS, i1, i2, i3, i4⟩ := info_some infoTk4
         refine wp_appRW _ (.tmp 42) (.tmp 44) 37 45 4 iS _ rfl Tryz.underlying37 i1 i2 i3 rfl tvA p _ rfl HUB.out z2.heap.size _ rfl HN9.out rfl (tokC_one _ _ _) (by rw [i4]; omega) (by omega) ?_
         intro tv' z4 ap
         have HU4 : Hid (RW z4 45 4 tv' (p + 1) ((tk ++ [(ya, yb)]).flatMap (tokC s i))) := Lib.hid (by have h9 := ap.row; rw [List.flatMap_append]; simpa using h9)
         have HD4 : Hid (Below y6.heap.size y6 z4) := Lib.hid (low_own HDz3.out ap.kp (fun j hj e => by have := HUO.out j e; omega))
         have HO4 : Hid (∀ b, tv'.ownBlock = some b → y6.heap.size ≤ b) := Lib.hid (fun b e => (ap.own b e).elim (HUO.out b) (fun h => Nat.le_trans HDz3.out.size h))
         refine hK _ _ (HSS.out _ HD4.out) ?_
         clear hK K ap i1 i2 i3 i4
         iterate 1 (refine TextL.bpurek rfl rfl (fun K hK => ⟨_, fun w' => by go_simp <;> rfl, ?_⟩); go_simp; refine hK _ ?_; clear hK K)
         refine TextL.blast rfl rfl (fun K hK => ?_)
         refine wp_store1 _ 37 (.tmp 46) (.tmp 45) rfl (sz1 _ (by kernel_rfl) _) y3.heap.size 2 _ _ tv' rfl rfl (HE6.out.kept HD4.out) HU4.out.cell1.1 HU4.out.cell1.2 (by simp) ?_
         intro z5 a1 a2 a3
         have HE5 : Hid (BL z5 y3.heap.size 54 [.string (strB s), .int .i64 i, tv', .slice A2 q c2]) := Lib.hid a1
         have HU5 := Lib.hid (HU4.out.kp a2 (fun b e e9 => by have := HO4.out b e; have := HSZ.out; omega))
         have HK5 : Hid (Kp (· = y3.heap.size) y6 z5) := Lib.hid ((Kp.of_below HD4.out).trans a2)
         refine hK _ _ ?_
         clear hK K a1 a2 a3
         refine TextL.bdone ?_
         go_wp2_with fail
         go_meet
         exact ⟨tv', HE5, HU5, HK5, HO4⟩
        ·
         refine TextL.beff rfl rfl (fun K hK => ?_)
         refine wp_bslice 37 45 1 _ rfl #[(0, .agg (tokC s i (ya, yb)).toArray)] (by rw [List.map_toArray]; rfl) (tokC s i (ya, yb)) (bslTok s ya yb i _) ?_
         intro z2 a1 a2 a3
         have HDz2 : Hid (Below y6.heap.size y6 z2) := Lib.hid (below_thenB (HDz1.out) ((HDz1.out).size) a2)
         have HN9 := Lib.hid a1
         have HX9 := Lib.hid a2
         refine hK _ _ (HSS.out _ HDz2.out) ?_
         clear hK K a1 a2 a3
         have HG0' := Lib.hid (HG0.out.kept HX9.out)
         refine TextL.beff rfl rfl (fun K hK => ?_)
         obtain ⟨iS, i1, i2, i3, i4⟩ := info_some infoTk4
         refine wp_appRR (.tmp 39) (.tmp 41) 37 45 4 iS _ rfl Tryz.underlying37 i1 i2 i3 rfl y6.heap.size 0 0 0 [] rfl HG0'.out A1 p c1 _ rfl (HTK6.out.kept HDz2.out) (flat_one s i tk) (by rw [i4]; omega) (by omega) ?_
         intro tvA z3 ap
         have HUA : Hid (RW z3 45 4 tvA p (tk.flatMap (tokC s i))) := Lib.hid (by have h9 := ap.row; rw [Nat.zero_add, List.nil_append] at h9; exact h9)
         have HUO : Hid (∀ b, tvA.ownBlock = some b → y6.heap.size ≤ b) := Lib.hid (fun b e => (ap.own b e).elim (fun h => by cases h; exact HG0L.out.1) (fun h => Nat.le_trans HDz2.out.size h))
         have HDz3 : Hid (Below y6.heap.size y6 z3) := Lib.hid (low_own HDz2.out ap.kp (fun j hj e => by have h9 : some y6.heap.size = some j := e; have := HG0L.out.1; injection h9 with h9; omega))
         have HKA := Lib.hid ap.kp
         refine hK _ _ (HSS.out _ HDz3.out) ?_
         clear hK K ap i1 i2 i3 i4
         have HN9' := Lib.hid (HN9.out.kp HKA.out (fun e => by have h9 : some y6.heap.size = some z1.heap.size := e; have := HG0L.out; injection h9 with h9; omega))
         refine TextL.beff rfl rfl (fun K hK => ?_)
         obtain ⟨iS, i1, i2, i3, i4⟩ := info_some infoTk4
         refine wp_appRW _ (.tmp 42) (.tmp 44) 37 45 4 iS _ rfl Tryz.underlying37 i1 i2 i3 rfl tvA p _ rfl HUA.out z1.heap.size _ rfl HN9'.out rfl (tokC_one _ _ _) (by rw [i4]; omega) (by omega) ?_
         intro tv' z4 ap
         have HU4 : Hid (RW z4 45 4 tv' (p + 1) ((tk ++ [(ya, yb)]).flatMap (tokC s i))) := Lib.hid (by have h9 := ap.row; rw [List.flatMap_append]; simpa using h9)
         have HD4 : Hid (Below y6.heap.size y6 z4) := Lib.hid (low_own HDz3.out ap.kp (fun j hj e => by have := HUO.out j e; omega))
         have HO4 : Hid (∀ b, tv'.ownBlock = some b → y6.heap.size ≤ b) := Lib.hid (fun b e => (ap.own b e).elim (HUO.out b) (fun h => Nat.le_trans HDz3.out.size h))
         refine hK _ _ (HSS.out _ HD4.out) ?_
         clear hK K ap i1 i2 i3 i4
         iterate 1 (refine TextL.bpurek rfl rfl (fun K hK => ⟨_, fun w' => by go_simp <;> rfl, ?_⟩); go_simp; refine hK _ ?_; clear hK K)
         refine TextL.blast rfl rfl (fun K hK => ?_)
         refine wp_store1 _ 37 (.tmp 46) (.tmp 45) rfl (sz1 _ (by kernel_rfl) _) y3.heap.size 2 _ _ tv' rfl rfl (HE6.out.kept HD4.out) HU4.out.cell1.1 HU4.out.cell1.2 (by simp) ?_
         intro z5 a1 a2 a3
         have HE5 : Hid (BL z5 y3.heap.size 54 [.string (strB s), .int .i64 i, tv', .slice A2 q c2]) := Lib.hid a1
         have HU5 := Lib.hid (HU4.out.kp a2 (fun b e e9 => by have := HO4.out b e; have := HSZ.out; omega))
         have HK5 : Hid (Kp (· = y3.heap.size) y6 z5) := Lib.hid ((Kp.of_below HD4.out).trans a2)
         refine hK _ _ ?_
         clear hK K a1 a2 a3
         refine TextL.bdone ?_
         go_wp2_with fail
         go_meet
         exact ⟨tv', HE5, HU5, HK5, HO4⟩
       ·
        refine TextL.beff rfl rfl (fun K hK => ?_)
        refine wp_bslice 37 45 1 _ rfl #[(0, .agg (tokC s i (ya, yb)).toArray)] (by rw [List.map_toArray]; rfl) (tokC s i (ya, yb)) (bslTok s ya yb i _) ?_
        intro z1 a1 a2 a3
        have HDz1 : Hid (Below y6.heap.size y6 z1) := Lib.hid (below_thenB ((Below.refl y6.heap.size y6).drew) (((Below.refl y6.heap.size y6).drew).size) a2)
        have HN9 := Lib.hid a1
        have HX9 := Lib.hid a2
        refine hK _ _ (HSS.out _ HDz1.out) ?_
        clear hK K a1 a2 a3
        refine TextL.beff rfl rfl (fun K hK => ?_)
        refine wp_bslice 37 45 0 _ rfl #[] (by rw [List.map_toArray]; rfl) [] (bslTok0 _) ?_
        intro z2 a1 a2 a3
        have HDz2 : Hid (Below y6.heap.size y6 z2) := Lib.hid (below_thenB (HDz1.out) ((HDz1.out).size) a2)
        have HG0 : Hid (RW z2 45 4 (.slice (some ⟨z1.heap.size, 0, none⟩) 0 0) 0 []) := Lib.hid (RW.of_blk (l := []) a1 rfl (by decide))
        have HG0L : Hid (y6.heap.size ≤ z1.heap.size ∧ z1.heap.size < z2.heap.size) := Lib.hid ⟨(HDz1.out).size, a1.lt⟩
        have HXE := Lib.hid a2
        refine hK _ _ (HSS.out _ HDz2.out) ?_
        clear hK K a1 a2 a3
        have HN9b := Lib.hid (HN9.out.kept HXE.out)
        refine TextL.beff rfl rfl (fun K hK => ?_)
        obtain ⟨iS, i1, i2, i3, i4⟩ := info_some infoTk4
        refine wp_appRR (.tmp 39) (.tmp 41) 37 45 4 iS _ rfl Tryz.underlying37 i1 i2 i3 rfl z1.heap.size 0 0 0 [] rfl HG0.out A1 p c1 _ rfl (HTK6.out.kept HDz2.out) (flat_one s i tk) (by rw [i4]; omega) (by omega) ?_
        intro tvA z3 ap
        have HUA : Hid (RW z3 45 4 tvA p (tk.flatMap (tokC s i))) := Lib.hid (by have h9 := ap.row; rw [Nat.zero_add, List.nil_append] at h9; exact h9)
        have HUO : Hid (∀ b, tvA.ownBlock = some b → y6.heap.size ≤ b) := Lib.hid (fun b e => (ap.own b e).elim (fun h => by cases h; exact HG0L.out.1) (fun h => Nat.le_trans HDz2.out.size h))
        have HDz3 : Hid (Below y6.heap.size y6 z3) := Lib.hid (low_own HDz2.out ap.kp (fun j hj e => by have h9 : some z1.heap.size = some j := e; have := HG0L.out.1; injection h9 with h9; omega))
        have HKA := Lib.hid ap.kp
        refine hK _ _ (HSS.out _ HDz3.out) ?_
        clear hK K ap i1 i2 i3 i4
        have HN9c := Lib.hid (HN9b.out.kp HKA.out (fun e => by have h9 : some z1.heap.size = some y6.heap.size := e; have h8 : y6.heap.size < z1.heap.size := HN9.out.lt; injection h9 with h9; omega))
        refine TextL.beff rfl rfl (fun K hK => ?_)
        obtain ⟨iS, i1, i2, i3, i4⟩ := info_some infoTk4
        refine wp_appRW _ (.tmp 42) (.tmp 44) 37 45 4 iS _ rfl Tryz.underlying37 i1 i2 i3 rfl tvA p _ rfl HUA.out y6.heap.size _ rfl HN9c.out rfl (tokC_one _ _ _) (by rw [i4]; omega) (by omega) ?_
        intro tv' z4 ap
        have HU4 : Hid (RW z4 45 4 tv' (p + 1) ((tk ++ [(ya, yb)]).flatMap (tokC s i))) := Lib.hid (by have h9 := ap.row; rw [List.flatMap_append]; simpa using h9)
        have HD4 : Hid (Below y6.heap.size y6 z4) := Lib.hid (low_own HDz3.out ap.kp (fun j hj e => by have := HUO.out j e; omega))
        have HO4 : Hid (∀ b, tv'.ownBlock = some b → y6.heap.size ≤ b) := Lib.hid (fun b e => (ap.own b e).elim (HUO.out b) (fun h => Nat.le_trans HDz3.out.size h))
        refine hK _ _ (HSS.out _ HD4.out) ?_
        clear hK K ap i1 i2 i3 i4
        iterate 1 (refine TextL.bpurek rfl rfl (fun K hK => ⟨_, fun w' => by go_simp <;> rfl, ?_⟩); go_simp; refine hK _ ?_; clear hK K)
        refine TextL.blast rfl rfl (fun K hK => ?_)
        refine wp_store1 _ 37 (.tmp 46) (.tmp 45) rfl (sz1 _ (by kernel_rfl) _) y3.heap.size 2 _ _ tv' rfl rfl (HE6.out.kept HD4.out) HU4.out.cell1.1 HU4.out.cell1.2 (by simp) ?_
        intro z5 a1 a2 a3
        have HE5 : Hid (BL z5 y3.heap.size 54 [.string (strB s), .int .i64 i, tv', .slice A2 q c2]) := Lib.hid a1
        have HU5 := Lib.hid (HU4.out.kp a2 (fun b e e9 => by have := HO4.out b e; have := HSZ.out; omega))
        have HK5 : Hid (Kp (· = y3.heap.size) y6 z5) := Lib.hid ((Kp.of_below HD4.out).trans a2)
        refine hK _ _ ?_
        clear hK K a1 a2 a3
        refine TextL.bdone ?_
        go_wp2_with fail
        go_meet
        exact ⟨tv', HE5, HU5, HK5, HO4⟩
      case rest =>
       obtain ⟨tv', hE, hT, hK9, hO9⟩ := hcut
       obtain ⟨wz, hwz⟩ : ∃ wz, wz = wc := ⟨_, rfl⟩
       rw [← hwz] at hE hT hK9 ⊢
       clear hwz
       have HY6 : Hid (Below wx.heap.size wx y6) := Lib.hid (below_thenB HX3.out HX3.out.size HX6.out)
       have HYZ : Hid (Below wx.heap.size wx wz) := Lib.hid (low_own HY6.out hK9.out (fun j hj e => by have := HSZ.out; omega))
       have HSX : Hid (SOf wz ⟨⟨s, i, tk ++ [(ya, yb)], us⟩, tv', .slice A2 q c2⟩) := Lib.hid (by
        have h1 := hT.out
        have e1 : p + 1 = (tk ++ [(ya, yb)]).length := by rw [List.length_append, HP.out]; rfl
        rw [e1] at h1
        have h2 := HUS6.out.kp hK9.out (fun b e e9 => by
         rcases HR3.out with h3 | h3
         ·
          have := (hrl.out.ok _ h3).lt (b := b) (.inr e)
          have := HSZ.out
          omega
         ·
          have h4 : Value.slice A2 q c2 = nilV := h3.2
          rw [h4] at e; cases e)
        have h3 : RW wz 9 1 (.slice A2 q c2) us.length (us.map usC) := by rw [← HQ.out]; exact h2
        exact ⟨h1, h3, by show (tk ++ [(ya, yb)]).length ≤ 100000; rw [← e1]; omega, by show us.length ≤ 100000; rw [← HQ.out]; omega⟩)
       have HRZ := Lib.hid (hrl.out.kept HYZ.out)
       go_wp2_with (first
        | ((with_reducible show OpW 48); refine wpList_loadv _ rfl 54 (.tmp 11) rfl 4 (by kernel_rfl) y3.heap.size 0 [.string (strB s), .int .i64 i, tv', .slice A2 q c2] rfl (BL.all hE.out) rfl ?_)
        | (go_at_call 16; refine (rput_any wz _ rj ⟨⟨s, i, tk ++ [(ya, yb)], us⟩, tv', .slice A2 q c2⟩ HRZ.out HSX.out HRJ.out).mono ?_; rintro e z7 ⟨v7, rfl, r1, r2, r3⟩; have HR7 := Lib.hid r1; have HV7 := Lib.hid r2; have HZ7 := Lib.hid (below_thenB HYZ.out HYZ.out.size r3); clear r1 r2 r3))
       go_roundw
       case rel =>
        refine ⟨j + 1, _, by omega, by go_num, HR7, Lib.hid (by rw [putL_map, HTE.out]; exact HADD.out.symm), Lib.hid (by rw [HDU.out]; rfl), Lib.hid (fun b hb9 => ?_), Lib.hid (below_thenB hb.out hb.out.size HZ7.out)⟩
        have hsz := hb.out.size
        have hsz2 := HYZ.out.size
        have hsz3 := HY6.out.size
        rcases hb9 with h9 | ⟨x, hx, h9⟩
        ·
         have := HV7.out b h9
         exact .inr (by omega)
        ·
         rcases putGo_mem hx with rfl | hx
         ·
          rcases h9 with h9 | h9
          ·
           have := hO9.out b h9
           exact .inr (by omega)
          ·
           rcases HR3.out with h3 | h3
           ·
            exact hrb.out b (.inr ⟨_, h3, .inr h9⟩)
           ·
            have h4 : Value.slice A2 q c2 = nilV := h3.2
            have h5 : (Value.slice A2 q c2).ownBlock = some b := h9
            rw [h4] at h5; cases h5
         ·
          exact hrb.out b (.inr ⟨x, hx, h9⟩)
       case measure => simp [intOf]; omega
    ·
     obtain rfl : j = k := by omega
     have HE : Hid (rj.map (·.e) = addE (rs.map (·.e)) xs) := Lib.hid (by rw [hrj.out, ← HXL.out, List.take_length])
     have HDF : Hid (dupB (rs.map (·.e)) xs = false) := Lib.hid (by rw [hdu.out, ← HXL.out, List.drop_length]; rfl)
     obtain ⟨z, hz⟩ : ∃ z, z = sizeE (addE (rs.map (·.e)) xs) := ⟨_, rfl⟩
     have HZ := Lib.hid hz
     clear hdu hrj hz
     by_cases hbig : 4096 < z
     ·
      have HBAD : Hid (adX (rs.map (·.e)) xs = 7) := Lib.hid (by rw [adX, if_pos HVT.out, if_neg (by rw [HDF.out]; decide), if_pos (by rw [← HZ.out]; exact hbig)])
      have f1 : decide ((4096 : Int) < (z : Int)) = true := decide_eq_true (by omega)
      go_wp2_with (first
       | (go_at_call 52; refine (rsizep_any wx _ rj hrl.out HRJ.out).mono ?_; rintro e y1 ⟨rfl, b1⟩; rw [HE.out, ← HZ.out]; have HX1 := Lib.hid b1; clear b1))
      go_ret2
      exact RAdd.bad HBAD.out (by decide) H.out (below_thenB hb.out hb.out.size HX1.out)
     ·
      have HGOOD : Hid (adX (rs.map (·.e)) xs = 0) := Lib.hid (by rw [adX, if_pos HVT.out, if_neg (by rw [HDF.out]; decide), if_neg (by rw [← HZ.out]; exact hbig)])
      have f1 : decide ((4096 : Int) < (z : Int)) = false := decide_eq_false (by omega)
      go_wp2_with (first
       | (go_at_call 52; refine (rsizep_any wx _ rj hrl.out HRJ.out).mono ?_; rintro e y1 ⟨rfl, b1⟩; rw [HE.out, ← HZ.out]; have HX1 := Lib.hid b1; clear b1))
      go_ret2
      exact ⟨_, rj, by rw [HGOOD.out]; rfl, hrl.out.kept HX1.out, by rw [HGOOD.out, if_pos rfl]; exact HE.out, hrb.out, below_thenB hb.out hb.out.size HX1.out⟩
end Go.Proofs.YtheijpjfpaghfaaGreatDoor
