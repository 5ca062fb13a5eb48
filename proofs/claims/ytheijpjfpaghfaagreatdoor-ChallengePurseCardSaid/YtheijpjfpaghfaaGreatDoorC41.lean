/- Several texts in one: Id, Ie. -/
import Derived.Test.YtheijpjfpaghfaaGreatDoorC40
import Derived.Laws.StructEq
/- The reference's Of and Low. -/
namespace Go.Proofs.YtheijpjfpaghfaaGreatDoor
open Go Go.RowKit Gf Sha

theorem eqIn_pid (p q : Pid) (w : World) : (Op.equalIn 10000 39 (.agg (pidC p).toArray) (.agg (pidC q).toArray)).run Tryz.prog w = .ok (decide (p = q)) w := by
 obtain ⟨a, b⟩ := p
 obtain ⟨c, d⟩ := q
 rw [run_equalIn_agg _ _ _ _ _ (by kernel_rfl) (by kernel_rfl)]
 unfold pidC
 go_simp
 rw [strB_list, strB_list]
 by_cases h1 : a = c <;> by_cases h2 : b = d <;> simp [h1, h2]
/-- The reference's purse in memory. -/
structure RLp (w : World) (v : Value) (rs : List Se) : Prop where
 row : RW w 54 4 v rs.length (rs.flatMap seC)
 ok : ∀ x ∈ rs, SOf w x
theorem RLp.kept {w w' : World} {v : Value} {rs : List Se} (h : RLp w v rs) (hb : Below w.heap.size w w') : RLp w' v rs := ⟨h.row.kept hb, fun x hx => (h.ok x hx).kept hb⟩
theorem ofE_at {l1 l2 : List En} {e : En} {p : Pid} (h : ∀ y ∈ l1, idE y ≠ p) (he : idE e = p) : ofE (l1 ++ e :: l2) p = e := by
 unfold ofE
 rw [List.find?_append, List.find?_eq_none.2 (fun y hy => by simpa using h y hy), List.find?_cons, he]
 simp
set_option maxRecDepth 100000 in
set_option maxHeartbeats 2000000 in
theorem rof_any (w : World) (v : Value) (rs : List Se) (s : List UInt8) (i : Int) (h : RLp w v rs) (hn : rs.length ≤ 100000) :
  Calls Tryz.prog 20 #[v, .agg #[.string (strB s), .int .i64 i]] w fun e w' => ∃ x : Se, x.e = ofE (rs.map (·.e)) (s, i) ∧ e = .returned (.agg (seC x).toArray) ∧ SOf w' x ∧ (x ∈ rs ∨ (x.tv = nilV ∧ x.uv = nilV)) ∧ Below w.heap.size w w' := by
 obtain ⟨Av, cv, ev, _⟩ := h.row.form
 have H := Lib.hid h
 obtain ⟨n, hn2⟩ : ∃ n, n = rs.length := ⟨_, rfl⟩
 rw [← hn2] at ev hn
 subst ev
 have HROW := Lib.hid h.row
 rw [← hn2] at HROW
 have HN := Lib.hid hn2
 clear h hn2
 go_enter Tryz.func20, Tryz.ntmps20
 go_wp2_with (first
  | ((with_reducible show OpW 3); refine wpList_box _ rfl 39 (.tmp 1) rfl [.string (strB s), .int .i64 i] rfl ?_; intro w1 a1 a2 a3; have HQ1 := Lib.hid a1; have HB1 := Lib.hid a2; clear a1 a2 a3)
  | ((with_reducible show OpW 4); refine wpList_alloc _ rfl 54 rfl reZ reZeroF ?_; intro w2 a1 a2 a3; have HR2 := Lib.hid a1; have HQ2 := Lib.hid (HQ1.out.kept a2); have HB2 := Lib.hid (below_then HB1.out a2); clear a1 a2 a3))
 have HSZ : Hid (w.heap.size < w1.heap.size ∧ w1.heap.size < w2.heap.size) := Lib.hid ⟨HQ1.out.lt, HR2.out.lt⟩
 go_loopw [9] (fun iv wr => ∃ k : Nat, k ≤ n ∧ iv = .int .i64 (k : Int) ∧ Hid (∀ y ∈ (rs.take k).map (·.e), idE y ≠ (s, i)) ∧ Hid (Below w2.heap.size w2 wr)) (fun iv _ => n - (intOf iv).toNat)
 case atStart => exact ⟨0, by omega, rfl, Lib.hid (fun y hy => by simp at hy), Lib.hid (Below.refl _ _)⟩
 case round =>
  obtain ⟨k, hk, rfl, hno, hb⟩ := hrel
  obtain ⟨wx, hwx⟩ : ∃ x, x = wr := ⟨_, rfl⟩
  rw [← hwx] at hb ⊢
  clear hwx
  have HBX := Lib.hid (below_thenB HB2.out HB2.out.size hb.out)
  have HQX := Lib.hid (HQ2.out.kept hb.out)
  by_cases hlt : k < n
  ·
   have hkl : k < rs.length := by rw [← HN.out]; exact hlt
   obtain ⟨g', o', c', e, _, hat⟩ := HROW.out.at_ (by omega)
   cases e
   obtain ⟨x, hx⟩ : ∃ x, x = rs[k] := ⟨_, rfl⟩
   have hxm : x ∈ rs := by rw [hx]; exact List.getElem_mem hkl
   have HAT := Lib.hid ((At.elem (f := seC) seC_length hat hkl).kept HBX.out)
   rw [← hx] at HAT
   have HTK : Hid ((rs.take (k + 1)).map (·.e) = (rs.take k).map (·.e) ++ [x.e]) := Lib.hid (by rw [List.take_succ_eq_append_getElem hkl, ← hx, List.map_append]; rfl)
   have HSP : Hid (rs.map (·.e) = (rs.take k).map (·.e) ++ x.e :: (rs.drop (k + 1)).map (·.e)) := Lib.hid (by
    conv => lhs; rw [← List.take_append_drop k rs, List.drop_eq_getElem_cons hkl, ← hx]
    rw [List.map_append, List.map_cons])
   have HXM := Lib.hid hxm
   have HSX := Lib.hid (H.out.ok x hxm)
   have HONE := Lib.hid (seC_onef HSX.out)
   clear hat hx hxm
   obtain ⟨⟨sx, zx, tk, us⟩, tvx, uvx⟩ := x
   have HONE : Hid (∀ v ∈ [Value.string (strB sx), .int .i64 zx, tvx, uvx], v.oneCell' = true) := Lib.hid HONE.out
   have HAT : Hid (At wx g' (o' + k * 4) [.string (strB sx), .int .i64 zx, tvx, uvx]) := Lib.hid HAT.out
   by_cases he : ((sx, zx) : Pid) = (s, i)
   ·
    have er : ∀ w, (Op.equalIn 10000 39 (.agg #[.string (strB sx), .int .i64 zx]) (.agg #[.string (strB s), .int .i64 i])).run Tryz.prog w = .ok true w := fun w => by
     have h9 := eqIn_pid (sx, zx) (s, i) w
     rw [decide_eq_true he] at h9
     exact h9
    have HOF : Hid (ofE (rs.map (·.e)) (s, i) = ⟨sx, zx, tk, us⟩) := Lib.hid (by rw [HSP.out]; exact ofE_at hno.out he)
    clear he
    go_wp2_with (first
     | ((with_reducible show OpW 12); refine wpList_loadv _ rfl 54 (.tmp 11) rfl 4 (by kernel_rfl) g' (o' + k * 4) [.string (strB sx), .int .i64 zx, tvx, uvx] (by go_simp) HAT.out rfl ?_)
     | ((with_reducible show OpW 6); refine wpList_alloc _ rfl 54 rfl reZ reZeroF ?_; intro y1 a1 a2 a3; have HE1 := Lib.hid a1; have HX1 := Lib.hid a2; clear a1 a2 a3)
     | ((with_reducible show OpN); refine wpList_storev _ rfl 54 (.tmp 6) (.tmp 12) rfl 4 (by kernel_rfl) wx.heap.size 0 _ reZ [.string (strB sx), .int .i64 zx, tvx, uvx] rfl rfl HE1.out rfl HONE.out (by decide) ?_; intro y2 a1 a2 a3; have HE2 : Hid (BL y2 wx.heap.size 54 [.string (strB sx), .int .i64 zx, tvx, uvx]) := Lib.hid a1; have HX2 : Hid (Below wx.heap.size wx y2) := Lib.hid (low_own HX1.out a2 (fun i hi e => by omega)); have HR2' := Lib.hid ((HR2.out.kept hb.out).kept HX2.out); clear a1 a2 a3)
     | ((with_reducible show OpW 14); refine wpList_loadv _ rfl 39 (.tmp 13) rfl 2 (by kernel_rfl) wx.heap.size 0 [.string (strB sx), .int .i64 zx] rfl (At.left (xs := [tvx, uvx]) (BL.all HE2.out)) rfl ?_)
     | ((with_reducible show OpW 15); refine wpList_loadv _ rfl 39 (.tmp 3) rfl 2 (by kernel_rfl) w.heap.size 0 [.string (strB s), .int .i64 i] rfl (BL.all (HQX.out.kept HX2.out)) rfl ?_)
     | ((with_reducible show OpW 17); refine wpList_loadv _ rfl 54 (.tmp 6) rfl 4 (by kernel_rfl) wx.heap.size 0 [.string (strB sx), .int .i64 zx, tvx, uvx] rfl (BL.all HE2.out) rfl ?_)
     | ((with_reducible show OpN); refine wpList_storev _ rfl 54 (.tmp 4) (.tmp 17) rfl 4 (by kernel_rfl) w1.heap.size 0 _ reZ [.string (strB sx), .int .i64 zx, tvx, uvx] rfl rfl HR2'.out rfl HONE.out (by decide) ?_; intro w9 a1 a2 a3; have HR9 : Hid (BL w9 w1.heap.size 54 [.string (strB sx), .int .i64 zx, tvx, uvx]) := Lib.hid a1; have HK9 := Lib.hid a2; clear a1 a2 a3)
     | fail)
    have HB9 : Hid (Below w.heap.size w w9) := Lib.hid (low_own (below_thenB HBX.out HBX.out.size HX2.out) HK9.out (fun j hj e => by have := HSZ.out; omega))
    refine bodyPost_ret (results_at w9 Tryz.results20 (n := 4) (by kernel_rfl) (g := w1.heap.size) (o := 0) rfl (ms := [.string (strB sx), .int .i64 zx, tvx, uvx]) (BL.all HR9.out) rfl) rfl ⟨⟨⟨sx, zx, tk, us⟩, tvx, uvx⟩, HOF.out.symm, rfl, HSX.out.kept HB9.out, .inl HXM.out, HB9.out⟩
   ·
    have er : ∀ w, (Op.equalIn 10000 39 (.agg #[.string (strB sx), .int .i64 zx]) (.agg #[.string (strB s), .int .i64 i])).run Tryz.prog w = .ok false w := fun w => by
     have h9 := eqIn_pid (sx, zx) (s, i) w
     rw [decide_eq_false he] at h9
     exact h9
    have HNO : Hid (∀ y ∈ (rs.take (k + 1)).map (·.e), idE y ≠ (s, i)) := Lib.hid (by
     rw [HTK.out]
     intro y hy
     rcases List.mem_append.1 hy with h9 | h9
     ·
      exact hno.out y h9
     ·
      rw [List.mem_singleton.1 h9]; exact he)
    clear he
    go_wp2_with (first
     | ((with_reducible show OpW 12); refine wpList_loadv _ rfl 54 (.tmp 11) rfl 4 (by kernel_rfl) g' (o' + k * 4) [.string (strB sx), .int .i64 zx, tvx, uvx] (by go_simp) HAT.out rfl ?_)
     | ((with_reducible show OpW 6); refine wpList_alloc _ rfl 54 rfl reZ reZeroF ?_; intro y1 a1 a2 a3; have HE1 := Lib.hid a1; have HX1 := Lib.hid a2; clear a1 a2 a3)
     | ((with_reducible show OpN); refine wpList_storev _ rfl 54 (.tmp 6) (.tmp 12) rfl 4 (by kernel_rfl) wx.heap.size 0 _ reZ [.string (strB sx), .int .i64 zx, tvx, uvx] rfl rfl HE1.out rfl HONE.out (by decide) ?_; intro y2 a1 a2 a3; have HE2 : Hid (BL y2 wx.heap.size 54 [.string (strB sx), .int .i64 zx, tvx, uvx]) := Lib.hid a1; have HX2 : Hid (Below wx.heap.size wx y2) := Lib.hid (low_own HX1.out a2 (fun i hi e => by omega));  clear a1 a2 a3)
     | ((with_reducible show OpW 14); refine wpList_loadv _ rfl 39 (.tmp 13) rfl 2 (by kernel_rfl) wx.heap.size 0 [.string (strB sx), .int .i64 zx] rfl (At.left (xs := [tvx, uvx]) (BL.all HE2.out)) rfl ?_)
     | ((with_reducible show OpW 15); refine wpList_loadv _ rfl 39 (.tmp 3) rfl 2 (by kernel_rfl) w.heap.size 0 [.string (strB s), .int .i64 i] rfl (BL.all (HQX.out.kept HX2.out)) rfl ?_)
     | fail)
    go_roundw
    case rel => exact ⟨k + 1, by omega, by go_num, HNO, Lib.hid (below_thenB hb.out hb.out.size HX2.out)⟩
    case measure => simp [intOf]; omega
  ·
   obtain rfl : k = n := by omega
   have HOF : Hid (ofE (rs.map (·.e)) (s, i) = ⟨s, i, [], []⟩) := Lib.hid (by
    have h9 := hno.out
    rw [HN.out, List.take_length] at h9
    exact ofE_out h9)
   have HR2' := Lib.hid (HR2.out.kept hb.out)
   go_wp2_with (first
    | ((with_reducible show OpW 19); refine wpList_loadv _ rfl 39 (.tmp 3) rfl 2 (by kernel_rfl) w.heap.size 0 [.string (strB s), .int .i64 i] rfl (BL.all HQX.out) rfl ?_)
    | ((with_reducible show OpW 20); refine wpList_build _ rfl 54 _ rfl #[(0, .agg #[.string (strB s), .int .i64 i])] (by rw [List.map_toArray]; rfl) (.agg [.string (strB s), .int .i64 i, nilV, nilV].toArray) (by exact bldEn _ _ _) ?_)
    | ((with_reducible show OpN); refine wpList_storev _ rfl 54 (.tmp 4) (.tmp 20) rfl 4 (by kernel_rfl) w1.heap.size 0 _ reZ [.string (strB s), .int .i64 i, nilV, nilV] rfl rfl HR2'.out rfl (one_val _ rfl) (by decide) ?_; intro w9 a1 a2 a3; have HR9 : Hid (BL w9 w1.heap.size 54 [.string (strB s), .int .i64 i, nilV, nilV]) := Lib.hid a1; have HK9 := Lib.hid a2; clear a1 a2 a3)
    | fail)
   have HB9 : Hid (Below w.heap.size w w9) := Lib.hid (low_own HBX.out HK9.out (fun j hj e => by have := HSZ.out; omega))
   refine bodyPost_ret (results_at w9 Tryz.results20 (n := 4) (by kernel_rfl) (g := w1.heap.size) (o := 0) rfl (ms := [.string (strB s), .int .i64 i, nilV, nilV]) (BL.all HR9.out) rfl) rfl ⟨⟨⟨s, i, [], []⟩, nilV, nilV⟩, HOF.out.symm, rfl, ⟨RW.nil _ _ _, RW.nil _ _ _, Nat.zero_le _, Nat.zero_le _⟩, .inr ⟨rfl, rfl⟩, HB9.out⟩
end Go.Proofs.YtheijpjfpaghfaaGreatDoor
/- The reference's Low and Put. -/
namespace Go.Proofs.YtheijpjfpaghfaaGreatDoor
open Go Go.RowKit Gf Sha

theorem bslPid0 (w : World) : (Instr.buildSlice 55 0 #[]).run Tryz.prog w = .ok (.slice (some ⟨w.heap.size, 0, none⟩) 0 0) (w.alloc (.cells ([] : List Value).toArray 39)) := by kernel_rfl
set_option maxRecDepth 100000 in
set_option maxHeartbeats 2000000 in
theorem rlow_any (w : World) (v : Value) (rs : List Se) (lim : Int) (h : RLp w v rs) (hn : rs.length ≤ 100000) :
  Calls Tryz.prog 18 #[v, .int .i64 lim] w fun e w' => ∃ v', e = .returned v' ∧ RW w' 39 2 v' (lowE (rs.map (·.e)) lim).length ((lowE (rs.map (·.e)) lim).flatMap pidC) ∧ Below w.heap.size w w' := by
 obtain ⟨Av, cv, ev, _⟩ := h.row.form
 have H := Lib.hid h
 obtain ⟨n, hn2⟩ : ∃ n, n = rs.length := ⟨_, rfl⟩
 rw [← hn2] at ev hn
 subst ev
 have HROW := Lib.hid h.row
 rw [← hn2] at HROW
 have HN := Lib.hid hn2
 clear h hn2
 go_enter Tryz.func18, Tryz.ntmps18
 go_wp2_with (first
  | ((with_reducible show OpW 8); refine wpList_bslice _ rfl 55 39 0 _ rfl #[] (by rw [List.map_toArray]; rfl) [] (bslPid0 _) ?_; intro w1 a1 a2 a3; have HO1 := Lib.hid a1; have HB1 := Lib.hid a2; clear a1 a2 a3))
 go_loopw [5, 11] (fun lv iv wr => ∃ (k m : Nat), k ≤ n ∧ m ≤ k ∧ iv = .int .i64 (k : Int) ∧ Hid ((lowE ((rs.take k).map (·.e)) lim).length = m) ∧ Hid (RW wr 39 2 lv m ((lowE ((rs.take k).map (·.e)) lim).flatMap pidC)) ∧ Hid (∀ q, lv.ownBlock = some q → w.heap.size ≤ q) ∧ Hid (Below w.heap.size w wr)) (fun _ iv _ => n - (intOf iv).toNat)
 case atStart => exact ⟨0, 0, by omega, by omega, rfl, Lib.hid rfl, Lib.hid (RW.of_blk (l := []) HO1.out rfl (by decide)), Lib.hid (fun q e => by cases e; exact Nat.le_refl _), HB1⟩
 case round =>
  obtain ⟨k, m, hk, hmk, rfl, hm, hrw, hown, hb⟩ := hrel
  obtain ⟨wx, hwx⟩ : ∃ x, x = wr := ⟨_, rfl⟩
  rw [← hwx] at hrw hb ⊢
  clear hwx
  obtain ⟨Al, cl, el, _⟩ := hrw.out.form
  subst el
  by_cases hlt : k < n
  ·
   have hkl : k < rs.length := by rw [← HN.out]; exact hlt
   obtain ⟨g', o', c', e, _, hat⟩ := HROW.out.at_ (by omega)
   cases e
   obtain ⟨x, hx⟩ : ∃ x, x = rs[k] := ⟨_, rfl⟩
   have HAT := Lib.hid ((At.elem (f := seC) seC_length hat hkl).kept hb.out)
   rw [← hx] at HAT
   have HTK : Hid ((rs.take (k + 1)).map (·.e) = (rs.take k).map (·.e) ++ [x.e]) := Lib.hid (by rw [List.take_succ_eq_append_getElem hkl, ← hx, List.map_append]; rfl)
   have HSX := Lib.hid (H.out.ok x (by rw [hx]; exact List.getElem_mem hkl))
   clear hat hx
   obtain ⟨⟨sx, zx, tk, us⟩, tvx, uvx⟩ := x
   obtain ⟨A1, c1, e1, _⟩ := HSX.out.t.form
   obtain ⟨A2, c2, e2, _⟩ := HSX.out.u.form
   replace e1 : tvx = .slice A1 tk.length c1 := e1
   replace e2 : uvx = .slice A2 us.length c2 := e2
   subst e1 e2
   obtain ⟨p, hp⟩ : ∃ p, p = tk.length := ⟨_, rfl⟩
   obtain ⟨q, hq⟩ : ∃ p, p = us.length := ⟨_, rfl⟩
   have HAT : Hid (At wx g' (o' + k * 4) [.string (strB sx), .int .i64 zx, .slice A1 p c1, .slice A2 q c2]) := Lib.hid (by rw [hp, hq]; exact HAT.out)
   have HPL := Lib.hid hp
   clear hp hq
   by_cases hll : (p : Int) < lim
   ·
    have fl : decide ((p : Int) < lim) = true := decide_eq_true hll
    have HLOW : Hid (lowE ((rs.take (k + 1)).map (·.e)) lim = lowE ((rs.take k).map (·.e)) lim ++ [(sx, zx)]) := Lib.hid (by
     rw [HTK.out]
     unfold lowE
     rw [List.filter_append, List.map_append, List.filter_cons, if_pos (by rw [← HPL.out]; exact fl)]
     rfl)
    clear hll
    go_wp2_with (first
     | ((with_reducible show OpW 14); refine wpList_loadv _ rfl 54 (.tmp 13) rfl 4 (by kernel_rfl) g' (o' + k * 4) [.string (strB sx), .int .i64 zx, .slice A1 p c1, .slice A2 q c2] (by go_simp) HAT.out rfl ?_)
     | ((with_reducible show OpW 7); refine wpList_alloc _ rfl 54 rfl reZ reZeroF ?_; intro y1 a1 a2 a3; have HE1 := Lib.hid a1; have HX1 := Lib.hid a2; clear a1 a2 a3)
     | ((with_reducible show OpN); refine wpList_storev _ rfl 54 (.tmp 7) (.tmp 14) rfl 4 (by kernel_rfl) wx.heap.size 0 _ reZ [.string (strB sx), .int .i64 zx, .slice A1 p c1, .slice A2 q c2] rfl rfl HE1.out rfl (one_val _ rfl) (by decide) ?_; intro y2 a1 a2 a3; have HE2 : Hid (BL y2 wx.heap.size 54 [.string (strB sx), .int .i64 zx, .slice A1 p c1, .slice A2 q c2]) := Lib.hid a1; have HX2 : Hid (Below wx.heap.size wx y2) := Lib.hid (low_own HX1.out a2 (fun i hi e => by omega)); have q2 := HE2.out.get (j := 2) rfl; have q3 := HE2.out.get (j := 3) rfl; clear a1 a2 a3)
     | ((with_reducible show OpW 22); refine wpList_loadv _ rfl 39 (.tmp 21) rfl 2 (by kernel_rfl) wx.heap.size 0 [.string (strB sx), .int .i64 zx] rfl (At.left (xs := [.slice A1 p c1, .slice A2 q c2]) (BL.all HE2.out)) rfl ?_)
     | ((with_reducible show OpW 23); refine wpList_bslice _ rfl 55 39 1 _ rfl #[(0, .agg #[.string (strB sx), .int .i64 zx])] (by rw [List.map_toArray]; rfl) [.string (strB sx), .int .i64 zx] (by exact bslPid sx zx _) ?_; intro y4 a1 a2 a3; have HN4 := Lib.hid a1; have HX4 := Lib.hid (below_thenB HX2.out HX2.out.size a2); have HRW4 := Lib.hid (hrw.out.kept HX4.out); clear a1 a2 a3)
     | ((with_reducible show OpW 24); obtain ⟨iS, i1, i2, i3, i4⟩ := info_some infoPidS; refine wpList_appRW _ rfl (.tmp 20) (.tmp 23) 55 39 2 iS _ rfl Tryz.underlying55 i1 i2 i3 rfl _ m _ rfl HRW4.out y2.heap.size _ rfl HN4.out rfl (one_val _ rfl) (by rw [i4]; omega) (by omega) ?_; intro v6 w6 ap; have HAP := Lib.hid ap; clear ap i1 i2 i3 i4))
    go_roundw
    case rel =>
     refine ⟨k + 1, m + 1, by omega, by omega, by go_num, Lib.hid (by rw [HLOW.out, List.length_append, hm.out]; rfl), Lib.hid ?_, Lib.hid (fun q e => (HAP.out.own q e).elim (hown.out q) (fun h => by have := hb.out.size; have := HX4.out.size; omega)), Lib.hid (low_own (below_thenB hb.out hb.out.size HX4.out) HAP.out.kp (fun j hj e => by have := hown.out j e; omega))⟩
     have h9 := HAP.out.row
     rw [HLOW.out, List.flatMap_append]
     exact h9
    case measure => simp [intOf]; omega
   ·
    have fl : decide ((p : Int) < lim) = false := decide_eq_false hll
    have HLOW : Hid (lowE ((rs.take (k + 1)).map (·.e)) lim = lowE ((rs.take k).map (·.e)) lim) := Lib.hid (by
     rw [HTK.out]
     unfold lowE
     rw [List.filter_append, List.map_append, List.filter_cons, if_neg (by rw [← HPL.out, fl]; decide)]
     simp)
    clear hll
    go_wp2_with (first
     | ((with_reducible show OpW 14); refine wpList_loadv _ rfl 54 (.tmp 13) rfl 4 (by kernel_rfl) g' (o' + k * 4) [.string (strB sx), .int .i64 zx, .slice A1 p c1, .slice A2 q c2] (by go_simp) HAT.out rfl ?_)
     | ((with_reducible show OpW 7); refine wpList_alloc _ rfl 54 rfl reZ reZeroF ?_; intro y1 a1 a2 a3; have HE1 := Lib.hid a1; have HX1 := Lib.hid a2; clear a1 a2 a3)
     | ((with_reducible show OpN); refine wpList_storev _ rfl 54 (.tmp 7) (.tmp 14) rfl 4 (by kernel_rfl) wx.heap.size 0 _ reZ [.string (strB sx), .int .i64 zx, .slice A1 p c1, .slice A2 q c2] rfl rfl HE1.out rfl (one_val _ rfl) (by decide) ?_; intro y2 a1 a2 a3; have HE2 : Hid (BL y2 wx.heap.size 54 [.string (strB sx), .int .i64 zx, .slice A1 p c1, .slice A2 q c2]) := Lib.hid a1; have HX2 : Hid (Below wx.heap.size wx y2) := Lib.hid (low_own HX1.out a2 (fun i hi e => by omega)); have q2 := HE2.out.get (j := 2) rfl; have q3 := HE2.out.get (j := 3) rfl; clear a1 a2 a3)
     | fail)
    go_roundw
    case rel => exact ⟨k + 1, m, by omega, by omega, by go_num, Lib.hid (by rw [HLOW.out]; exact hm.out), Lib.hid (by rw [HLOW.out]; exact hrw.out.kept HX2.out), hown, Lib.hid (below_thenB hb.out hb.out.size HX2.out)⟩
    case measure => simp [intOf]; omega
  ·
   obtain rfl : k = n := by omega
   rw [HN.out, List.take_length] at hm hrw
   go_wp2_with fail
   go_ret
   exact ⟨_, rfl, by rw [hm.out]; exact hrw.out, hb.out⟩
end Go.Proofs.YtheijpjfpaghfaaGreatDoor
