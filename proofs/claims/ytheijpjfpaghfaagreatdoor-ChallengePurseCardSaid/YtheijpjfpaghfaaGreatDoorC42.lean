/- Several texts in one: Ig. -/
import Derived.Test.YtheijpjfpaghfaaGreatDoorC41
/- The reference's Put. -/
namespace Go.Proofs.YtheijpjfpaghfaaGreatDoor
open Go Go.RowKit Gf Sha

/-- What Put does with the entries that are left. -/
def putGo (x : Se) : List Se → Bool → List Se
 | [], done => if done then [] else [x]
 | y :: r, done => (if (!done && ltI (idE x.e) (idE y.e)) = true then [x] else []) ++ ((if idE y.e = idE x.e then [] else [y]) ++ putGo x r (done || ltI (idE x.e) (idE y.e)))
def putL (rs : List Se) (x : Se) : List Se := putGo x rs (decide (x.e.tk.length + x.e.us.length = 0))
theorem putGo_mem {x : Se} : ∀ {rs : List Se} {d : Bool} {y : Se}, y ∈ putGo x rs d → y = x ∨ y ∈ rs
 | [], d, y, h => by
  cases d with
  | true => cases h
  | false => exact .inl (List.mem_singleton.1 h)
 | z :: r, d, y, h => by
  rw [putGo] at h
  rcases List.mem_append.1 h with h | h
  ·
   split at h
   ·
    exact .inl (List.mem_singleton.1 h)
   ·
    cases h
  ·
   rcases List.mem_append.1 h with h | h
   ·
    split at h
    ·
     cases h
    ·
     rw [List.mem_singleton.1 h]; exact .inr (List.mem_cons_self ..)
   ·
    exact (putGo_mem h).imp id (List.mem_cons_of_mem _)
/-- A list of entries under construction: the entries are old. -/
structure RLo (w : World) (base : Nat) (v : Value) (rs : List Se) : Prop where
 row : RW w 54 4 v rs.length (rs.flatMap seC)
 ok : ∀ x ∈ rs, SOf w x
 vlo : ∀ q, v.ownBlock = some q → base ≤ q
 elo : ∀ x ∈ rs, ∀ q, x.has q → q < base
theorem RLo.kept {w w' : World} {base : Nat} {v : Value} {rs : List Se} (h : RLo w base v rs) (hb : Below w.heap.size w w') : RLo w' base v rs := ⟨h.row.kept hb, fun x hx => (h.ok x hx).kept hb, h.vlo, h.elo⟩
theorem RLo.push {w w' : World} {base : Nat} {v v' : Value} {rs : List Se} {x : Se} (h : RLo w base v rs) (hx : SOf w x) (hl : ∀ q, x.has q → q < base) (hb : base ≤ w.heap.size) (ap : AppR w 54 4 v rs.length 1 (rs.flatMap seC) (seC x) v' w') : RLo w' base v' (rs ++ [x]) := by
 refine ⟨?_, fun y hy => ?_, fun q hq => (ap.own q hq).elim (h.vlo q) (fun h9 => by omega), fun y hy q hq => ?_⟩
 ·
  have h9 := ap.row
  rw [List.flatMap_append, List.length_append]
  simpa using h9
 ·
  rcases List.mem_append.1 hy with h9 | h9
  ·
   exact (h.ok y h9).kp ap.kp (fun q hq hq2 => by have := h.vlo q hq2; have := h.elo y h9 q hq; omega)
  ·
   rw [List.mem_singleton.1 h9]
   exact hx.kp ap.kp (fun q hq hq2 => by have := h.vlo q hq2; have := hl q hq; omega)
 ·
  rcases List.mem_append.1 hy with h9 | h9
  ·
   exact h.elo y h9 q hq
  ·
   rw [List.mem_singleton.1 h9] at hq
   exact hl q hq
theorem bslRF0 (w : World) : (Instr.buildSlice 29 0 #[]).run Tryz.prog w = .ok (.slice (some ⟨w.heap.size, 0, none⟩) 0 0) (w.alloc (.cells ([] : List Value).toArray 54)) := by kernel_rfl
set_option maxRecDepth 100000 in
set_option maxHeartbeats 8000000 in
theorem rput_any (w : World) (v : Value) (rs : List Se) (x : Se) (h : RLp w v rs) (hx : SOf w x) (hn : rs.length ≤ 100000) :
  Calls Tryz.prog 16 #[v, .agg (seC x).toArray] w fun e w' => ∃ v', e = .returned v' ∧ RLp w' v' (putL rs x) ∧ (∀ q, v'.ownBlock = some q → w.heap.size ≤ q) ∧ Below w.heap.size w w' := by
 obtain ⟨Av, cv, ev, _⟩ := h.row.form
 have H := Lib.hid h
 obtain ⟨n, hn2⟩ : ∃ n, n = rs.length := ⟨_, rfl⟩
 rw [← hn2] at ev hn
 subst ev
 have HROW := Lib.hid h.row
 rw [← hn2] at HROW
 have HN := Lib.hid hn2
 clear h hn2
 obtain ⟨R, hR⟩ : ∃ R, R = putL rs x := ⟨_, rfl⟩
 rw [← hR]
 have HRR := Lib.hid hR
 clear hR
 have HSX := Lib.hid hx
 have HONX := Lib.hid (seC_onef hx)
 have HXL0 : Hid (∀ q, x.has q → q < w.heap.size) := Lib.hid (fun q hq => hx.lt hq)
 clear hx
 obtain ⟨⟨s, i, tk, us⟩, tv, uv⟩ := x
 obtain ⟨A1, c1, e1, _⟩ := HSX.out.t.form
 obtain ⟨A2, c2, e2, _⟩ := HSX.out.u.form
 replace e1 : tv = .slice A1 tk.length c1 := e1
 replace e2 : uv = .slice A2 us.length c2 := e2
 obtain ⟨p, hp⟩ : ∃ p, p = tk.length := ⟨_, rfl⟩
 obtain ⟨q, hq⟩ : ∃ p, p = us.length := ⟨_, rfl⟩
 rw [← hp] at e1
 rw [← hq] at e2
 have hpb : p ≤ 100000 := by rw [hp]; exact HSX.out.bt
 have hqb : q ≤ 100000 := by rw [hq]; exact HSX.out.bu
 obtain ⟨T, hT⟩ : ∃ T, T = p + q := ⟨_, rfl⟩
 have fT : (p : Int) + (q : Int) = (T : Int) := by omega
 have fTw : IntKind.i64.wrap ((p : Int) + (q : Int)) = (T : Int) := by rw [IntWalk.i64_in _ (by omega)]; omega
 have fT3 : IntKind.i64.wrap (T : Int) = (T : Int) := by rw [IntWalk.i64_in _ (by omega)]
 obtain ⟨f0, hf0⟩ : ∃ f : Bool, ((T : Int) == 0) = f := ⟨_, rfl⟩
 have HDN : Hid (R = putGo ⟨⟨s, i, tk, us⟩, tv, uv⟩ rs f0) := Lib.hid (by
  rw [HRR.out, putL]
  congr 1
  rw [← hf0, Bool.eq_iff_iff, decide_eq_true_eq, beq_iff_eq]
  show tk.length + us.length = 0 ↔ _
  omega)
 have HE12 := Lib.hid (And.intro e1 e2)
 clear e1 e2 hp hq hT HRR
 have HONX : Hid (∀ v ∈ [Value.string (strB s), .int .i64 i, tv, uv], v.oneCell' = true) := Lib.hid HONX.out
 go_enter Tryz.func16, Tryz.ntmps16
 go_wp2_with (first
  | ((with_reducible show OpW 3); refine wpList_box _ rfl 54 (.tmp 1) rfl [.string (strB s), .int .i64 i, tv, uv] (by rw [HE12.out.1, HE12.out.2]; rfl) ?_; intro w1 a1 a2 a3; have HQ1 := Lib.hid a1; have HB1 := Lib.hid a2; have HZ1 : Hid (w.heap.size < w1.heap.size) := Lib.hid a1.lt; clear a1 a2 a3))
 have HXL : Hid (∀ q, Se.has ⟨⟨s, i, tk, us⟩, tv, uv⟩ q → q < w1.heap.size) := Lib.hid (fun q hq => by have := HXL0.out q hq; have := HZ1.out; omega)
 have HLD : Hid (∀ wq, Below w1.heap.size w1 wq → wq.cell? ⟨w.heap.size, 2, none⟩ = some (.slice A1 p c1) ∧ wq.cell? ⟨w.heap.size, 3, none⟩ = some (.slice A2 q c2)) := Lib.hid (fun wq hq => ⟨by rw [← HE12.out.1]; exact (HQ1.out.kept hq).get (j := 2) rfl, by rw [← HE12.out.2]; exact (HQ1.out.kept hq).get (j := 3) rfl⟩)
 refine Text.wp_region_text (fun w' => w'.cell? ⟨w.heap.size, 2, none⟩ = some (.slice A1 p c1) ∧ w'.cell? ⟨w.heap.size, 3, none⟩ = some (.slice A2 q c2)) [(1, 4), (4, 4), (2, 0), (3, 4), (5, 0), (6, 4), (7, 4), (8, 4), (0, 2), (9, 4), (10, 4)] (by kernel_rfl) (by kernel_rfl) (fun _ _ _ _ _ h => h) (HLD.out _ (Below.refl _ _).drew) ?_
 iterate 2 (refine Text.purek rfl rfl (fun K hK => ⟨_, fun w' => by go_simp <;> rfl, ?_⟩); go_simp; refine hK _ ?_; clear hK K)
 (refine Text.heldk rfl rfl (fun K hK => ⟨_, fun w' hw' => by go_simp <;> rfl, ?_⟩); go_simp; refine hK _ ?_; clear hK K)
 (refine Text.purek rfl rfl (fun K hK => ⟨_, fun w' => by go_simp <;> rfl, ?_⟩); go_simp; refine hK _ ?_; clear hK K)
 (refine Text.heldk rfl rfl (fun K hK => ⟨_, fun w' hw' => by go_simp <;> rfl, ?_⟩); go_simp; refine hK _ ?_; clear hK K)
 iterate 3 (refine Text.purek rfl rfl (fun K hK => ⟨_, fun w' => by go_simp <;> rfl, ?_⟩); go_simp; refine hK _ ?_; clear hK K)
 refine Text.eff rfl rfl (fun K hK => ?_)
 refine wp_bslice 29 54 0 _ rfl #[] (by rw [List.map_toArray]; rfl) [] (bslRF0 _) ?_
 intro y0 a1 a2 a3
 have HR0 : Hid (RLo y0 w1.heap.size (.slice (some ⟨w1.heap.size, 0, none⟩) 0 0) []) := Lib.hid ⟨RW.of_blk (l := []) a1 rfl (by decide), fun _ h => (by cases h), fun q e => (by cases e; exact Nat.le_refl _), fun _ h => (by cases h)⟩
 have HB0 : Hid (Below w1.heap.size w1 y0) := Lib.hid (below_then (Below.refl _ _).drew (a2.mono (Nat.le_refl _)))
 refine hK _ _ (HLD.out _ HB0.out) ?_
 clear hK K a1 a2 a3
 iterate 2 (refine Text.purek rfl rfl (fun K hK => ⟨_, fun w' => by go_simp <;> rfl, ?_⟩); go_simp; refine hK _ ?_; clear hK K)
 refine Text.done ?_
 go_wp2_with fail
 clear HLD
 go_loopw [5, 6, 20] (fun ov dv iv wr => ∃ (k : Nat) (done : Bool) (out : List Se), k ≤ n ∧ iv = .int .i64 (k : Int) ∧ dv = .bool done ∧ Hid (out ++ putGo ⟨⟨s, i, tk, us⟩, tv, uv⟩ (rs.drop k) done = R) ∧ Hid (RLo wr w1.heap.size ov out) ∧ Hid (out.length ≤ 2 * k) ∧ Hid (Below w1.heap.size w1 wr)) (fun _ _ iv _ => n - (intOf iv).toNat)
 case atStart => exact ⟨0, f0, [], by omega, rfl, (by first | rfl | (rw [fT3, hf0])), Lib.hid (by rw [List.drop_zero, HDN.out]; rfl), HR0, Lib.hid (Nat.zero_le _), HB0⟩
 case round =>
  obtain ⟨k, done, out, hk, rfl, rfl, hrr, hrl, hol, hb⟩ := hrel
  obtain ⟨wx, hwx⟩ : ∃ x, x = wr := ⟨_, rfl⟩
  rw [← hwx] at hrl hb ⊢
  clear hwx
  have hln : out.length ≤ 200000 := by have := hol.out; omega
  obtain ⟨Ao, co, eo, _⟩ := hrl.out.row.form
  subst eo
  by_cases hlt : k < n
  ·
   have hkl : k < rs.length := by rw [← HN.out]; exact hlt
   obtain ⟨g', o', c', e, _, hat⟩ := HROW.out.at_ (by omega)
   cases e
   obtain ⟨y, hy⟩ : ∃ y, y = rs[k] := ⟨_, rfl⟩
   have hym : y ∈ rs := by rw [hy]; exact List.getElem_mem hkl
   have HAT := Lib.hid ((At.elem (f := seC) seC_length hat hkl).kept (below_then HB1.out hb.out))
   rw [← hy] at HAT
   have HDR : Hid (rs.drop k = y :: rs.drop (k + 1)) := Lib.hid (by rw [List.drop_eq_getElem_cons hkl, ← hy])
   have HSY := Lib.hid (H.out.ok y hym)
   have HONE := Lib.hid (seC_onef HSY.out)
   have HYL : Hid (∀ q, y.has q → q < w1.heap.size) := Lib.hid (fun q hq => by have := HSY.out.lt hq; have := HZ1.out; omega)
   have HNX : Hid (out ++ ((if (!done && ltI (s, i) (idE y.e)) = true then [⟨⟨s, i, tk, us⟩, tv, uv⟩] else []) ++ ((if idE y.e = (s, i) then [] else [y]) ++ putGo ⟨⟨s, i, tk, us⟩, tv, uv⟩ (rs.drop (k + 1)) (done || ltI (s, i) (idE y.e)))) = R) := Lib.hid (by
    have h9 := hrr.out
    rw [HDR.out] at h9
    exact h9)
   clear hat hy hym hrr
   obtain ⟨⟨sy, zy, tky, usy⟩, tvy, uvy⟩ := y
   have HONE : Hid (∀ v ∈ [Value.string (strB sy), .int .i64 zy, tvy, uvy], v.oneCell' = true) := Lib.hid HONE.out
   have HAT : Hid (At wx g' (o' + k * 4) [.string (strB sy), .int .i64 zy, tvy, uvy]) := Lib.hid HAT.out
   have HOL : Hid (out.length ≤ 200000) := Lib.hid hln
   obtain ⟨LT, hLT⟩ : ∃ B, B = ltI (s, i) (sy, zy) := ⟨_, rfl⟩
   have HLT : Hid (ltI (s, i) (sy, zy) = LT) := Lib.hid hLT.symm
   clear hLT
   obtain ⟨EQ, hEQ⟩ : ∃ B, B = decide (((sy, zy) : Pid) = (s, i)) := ⟨_, rfl⟩
   have er : ∀ w, (Op.equalIn 10000 39 (.agg #[.string (strB sy), .int .i64 zy]) (.agg #[.string (strB s), .int .i64 i])).run Tryz.prog w = .ok EQ w := fun w => by
    have h9 := eqIn_pid (sy, zy) (s, i) w
    rw [← hEQ] at h9
    exact h9
   have HNX : Hid (out ++ ((if (!done && LT) = true then [⟨⟨s, i, tk, us⟩, tv, uv⟩] else []) ++ ((if EQ = true then [] else [⟨⟨sy, zy, tky, usy⟩, tvy, uvy⟩]) ++ putGo ⟨⟨s, i, tk, us⟩, tv, uv⟩ (rs.drop (k + 1)) (done || LT))) = R) := Lib.hid (by
    have h9 := HNX.out
    rw [show (idE (⟨⟨sy, zy, tky, usy⟩, tvy, uvy⟩ : Se).e : Pid) = (sy, zy) from rfl, HLT.out] at h9
    rw [← h9, hEQ]
    simp only [decide_eq_true_eq])
   clear hEQ
   cases done with
   | true =>
    cases EQ with
    | true =>
     go_wp2_with (first
      | ((with_reducible show OpW 23); refine wpList_loadv _ rfl 54 (.tmp 22) rfl 4 (by kernel_rfl) g' (o' + k * 4) [.string (strB sy), .int .i64 zy, tvy, uvy] (by go_simp) HAT.out rfl ?_)
      | ((with_reducible show OpW 8); refine wpList_alloc _ rfl 54 rfl reZ reZeroF ?_; intro y1 a1 a2 a3; have HE1 := Lib.hid a1; have HX1 := Lib.hid a2; clear a1 a2 a3)
      | ((with_reducible show OpN); refine wpList_storev _ rfl 54 (.tmp 8) (.tmp 23) rfl 4 (by kernel_rfl) wx.heap.size 0 _ reZ [.string (strB sy), .int .i64 zy, tvy, uvy] rfl rfl HE1.out rfl HONE.out (by decide) ?_; intro y2 a1 a2 a3; have HE2 : Hid (BL y2 wx.heap.size 54 [.string (strB sy), .int .i64 zy, tvy, uvy]) := Lib.hid a1; have HX2 : Hid (Below wx.heap.size wx y2) := Lib.hid (low_own HX1.out a2 (fun i hi e => by omega)); have HD2 : Hid (Below w1.heap.size w1 y2) := Lib.hid (below_thenB hb.out hb.out.size HX2.out); clear a1 a2 a3)
      | ((with_reducible show OpW 38); refine wpList_loadv _ rfl 39 (.tmp 37) rfl 2 (by kernel_rfl) wx.heap.size 0 [.string (strB sy), .int .i64 zy] rfl (At.left (xs := [tvy, uvy]) (BL.all HE2.out)) rfl ?_)
      | ((with_reducible show OpW 40); refine wpList_loadv _ rfl 39 (.tmp 39) rfl 2 (by kernel_rfl) w.heap.size 0 [.string (strB s), .int .i64 i] rfl (At.left (xs := [tv, uv]) (BL.all (HQ1.out.kept HD2.out))) rfl ?_)
      | fail)
     go_roundw
     case rel => exact ⟨k + 1, true, out, by omega, by go_num, rfl, Lib.hid HNX.out, Lib.hid (hrl.out.kept HX2.out), Lib.hid (by have := hol.out; omega), HD2⟩
     case measure => simp [intOf]; omega
    | false =>
     have HRL2 : Hid True := Lib.hid trivial
     go_wp2_with (first
      | ((with_reducible show OpW 23); refine wpList_loadv _ rfl 54 (.tmp 22) rfl 4 (by kernel_rfl) g' (o' + k * 4) [.string (strB sy), .int .i64 zy, tvy, uvy] (by go_simp) HAT.out rfl ?_)
      | ((with_reducible show OpW 8); refine wpList_alloc _ rfl 54 rfl reZ reZeroF ?_; intro y1 a1 a2 a3; have HE1 := Lib.hid a1; have HX1 := Lib.hid a2; clear a1 a2 a3)
      | ((with_reducible show OpN); refine wpList_storev _ rfl 54 (.tmp 8) (.tmp 23) rfl 4 (by kernel_rfl) wx.heap.size 0 _ reZ [.string (strB sy), .int .i64 zy, tvy, uvy] rfl rfl HE1.out rfl HONE.out (by decide) ?_; intro y2 a1 a2 a3; have HE2 : Hid (BL y2 wx.heap.size 54 [.string (strB sy), .int .i64 zy, tvy, uvy]) := Lib.hid a1; have HX2 : Hid (Below wx.heap.size wx y2) := Lib.hid (low_own HX1.out a2 (fun i hi e => by omega)); have HD2 : Hid (Below w1.heap.size w1 y2) := Lib.hid (below_thenB hb.out hb.out.size HX2.out); clear a1 a2 a3)
      | ((with_reducible show OpW 38); refine wpList_loadv _ rfl 39 (.tmp 37) rfl 2 (by kernel_rfl) wx.heap.size 0 [.string (strB sy), .int .i64 zy] rfl (At.left (xs := [tvy, uvy]) (BL.all HE2.out)) rfl ?_)
      | ((with_reducible show OpW 40); refine wpList_loadv _ rfl 39 (.tmp 39) rfl 2 (by kernel_rfl) w.heap.size 0 [.string (strB s), .int .i64 i] rfl (At.left (xs := [tv, uv]) (BL.all (HQ1.out.kept HD2.out))) rfl ?_)
      | ((with_reducible show OpW 43); refine wpList_loadv _ rfl 54 (.tmp 8) rfl 4 (by kernel_rfl) wx.heap.size 0 [.string (strB sy), .int .i64 zy, tvy, uvy] rfl (BL.all HE2.out) rfl ?_)
      | ((with_reducible show OpW 44); refine wpList_bslice _ rfl 29 54 1 _ rfl #[(0, .agg [.string (strB sy), .int .i64 zy, tvy, uvy].toArray)] (by rw [List.map_toArray]; rfl) [.string (strB sy), .int .i64 zy, tvy, uvy] (by exact bslReF _ _ _ _ _) ?_; intro y6 a1 a2 a3; have HN6 := Lib.hid a1; have HRL6 := Lib.hid ((Lib.hid (hrl.out.kept HX2.out)).out.kept a2); have HD6 := Lib.hid (below_thenB HD2.out HD2.out.size a2); clear a1 a2 a3)
      | ((with_reducible show OpW 45); obtain ⟨iS, i1, i2, i3, i4⟩ := info_some infoReF; refine wpList_appRW _ rfl (.tmp 42) (.tmp 44) 29 54 4 iS _ rfl Tryz.underlying29 i1 i2 i3 rfl _ _ _ rfl HRL6.out.row y2.heap.size _ rfl HN6.out rfl HONE.out (by rw [i4]; have := HOL.out; (try simp only [List.length_append, List.length_cons, List.length_nil]); omega) (by have := HOL.out; (try simp only [List.length_append, List.length_cons, List.length_nil]); omega) ?_; intro v7 y7 ap; have HRL7 := Lib.hid (HRL6.out.push (x := ⟨⟨sy, zy, tky, usy⟩, tvy, uvy⟩) (HSY.out.kept (below_then HB1.out HD6.out)) HYL.out HD6.out.size ap); have HD7 : Hid (Below w1.heap.size w1 y7) := Lib.hid (low_own HD6.out ap.kp (fun i hi e => by have := HRL6.out.vlo i e; omega)); clear ap i1 i2 i3 i4)
      | fail)
     go_roundw
     case rel => exact ⟨k + 1, true, out ++ [⟨⟨sy, zy, tky, usy⟩, tvy, uvy⟩], by omega, by go_num, rfl, Lib.hid (by rw [List.append_assoc]; exact HNX.out), HRL7, Lib.hid (by have := hol.out; rw [List.length_append, List.length_singleton]; omega), HD7⟩
     case measure => simp [intOf]; omega
   | false =>
    cases LT with
    | false =>
     cases EQ with
     | true =>
      go_wp2_with (first
       | ((with_reducible show OpW 23); refine wpList_loadv _ rfl 54 (.tmp 22) rfl 4 (by kernel_rfl) g' (o' + k * 4) [.string (strB sy), .int .i64 zy, tvy, uvy] (by go_simp) HAT.out rfl ?_)
       | ((with_reducible show OpW 8); refine wpList_alloc _ rfl 54 rfl reZ reZeroF ?_; intro y1 a1 a2 a3; have HE1 := Lib.hid a1; have HX1 := Lib.hid a2; clear a1 a2 a3)
       | ((with_reducible show OpN); refine wpList_storev _ rfl 54 (.tmp 8) (.tmp 23) rfl 4 (by kernel_rfl) wx.heap.size 0 _ reZ [.string (strB sy), .int .i64 zy, tvy, uvy] rfl rfl HE1.out rfl HONE.out (by decide) ?_; intro y2 a1 a2 a3; have HE2 : Hid (BL y2 wx.heap.size 54 [.string (strB sy), .int .i64 zy, tvy, uvy]) := Lib.hid a1; have HX2 : Hid (Below wx.heap.size wx y2) := Lib.hid (low_own HX1.out a2 (fun i hi e => by omega)); have HD2 : Hid (Below w1.heap.size w1 y2) := Lib.hid (below_thenB hb.out hb.out.size HX2.out); clear a1 a2 a3)
       | ((with_reducible show OpW 28); refine wpList_loadvg _ rfl 39 (.tmp 27) rfl 2 (by kernel_rfl) w.heap.size 0 [.string (strB s), .int .i64 i] rfl (At.left (xs := [tv, uv]) (BL.all (HQ1.out.kept HD2.out))) rfl ?_)
       | ((with_reducible show OpW 30); refine wpList_loadvg _ rfl 39 (.tmp 29) rfl 2 (by kernel_rfl) wx.heap.size 0 [.string (strB sy), .int .i64 zy] rfl (At.left (xs := [tvy, uvy]) (BL.all HE2.out)) rfl ?_)
       | (go_at_call 53; refine (rless_any s sy i zy y2).mono ?_; rintro e y3 ⟨rfl, b1⟩; rw [HLT.out]; have HE3 := Lib.hid (HE2.out.kept b1); have HX3 := Lib.hid (below_thenB HX2.out HX2.out.size b1); have HD3 := Lib.hid (below_thenB HD2.out HD2.out.size b1); clear b1)
       | ((with_reducible show OpW 38); refine wpList_loadv _ rfl 39 (.tmp 37) rfl 2 (by kernel_rfl) wx.heap.size 0 [.string (strB sy), .int .i64 zy] rfl (At.left (xs := [tvy, uvy]) (BL.all HE3.out)) rfl ?_)
       | ((with_reducible show OpW 40); refine wpList_loadv _ rfl 39 (.tmp 39) rfl 2 (by kernel_rfl) w.heap.size 0 [.string (strB s), .int .i64 i] rfl (At.left (xs := [tv, uv]) (BL.all (HQ1.out.kept HD3.out))) rfl ?_)
       | fail)
      go_roundw
      case rel => exact ⟨k + 1, false, out, by omega, by go_num, rfl, Lib.hid HNX.out, Lib.hid (hrl.out.kept HX3.out), Lib.hid (by have := hol.out; omega), HD3⟩
      case measure => simp [intOf]; omega
     | false =>
      go_wp2_with (first
       | ((with_reducible show OpW 23); refine wpList_loadv _ rfl 54 (.tmp 22) rfl 4 (by kernel_rfl) g' (o' + k * 4) [.string (strB sy), .int .i64 zy, tvy, uvy] (by go_simp) HAT.out rfl ?_)
       | ((with_reducible show OpW 8); refine wpList_alloc _ rfl 54 rfl reZ reZeroF ?_; intro y1 a1 a2 a3; have HE1 := Lib.hid a1; have HX1 := Lib.hid a2; clear a1 a2 a3)
       | ((with_reducible show OpN); refine wpList_storev _ rfl 54 (.tmp 8) (.tmp 23) rfl 4 (by kernel_rfl) wx.heap.size 0 _ reZ [.string (strB sy), .int .i64 zy, tvy, uvy] rfl rfl HE1.out rfl HONE.out (by decide) ?_; intro y2 a1 a2 a3; have HE2 : Hid (BL y2 wx.heap.size 54 [.string (strB sy), .int .i64 zy, tvy, uvy]) := Lib.hid a1; have HX2 : Hid (Below wx.heap.size wx y2) := Lib.hid (low_own HX1.out a2 (fun i hi e => by omega)); have HD2 : Hid (Below w1.heap.size w1 y2) := Lib.hid (below_thenB hb.out hb.out.size HX2.out); clear a1 a2 a3)
       | ((with_reducible show OpW 28); refine wpList_loadvg _ rfl 39 (.tmp 27) rfl 2 (by kernel_rfl) w.heap.size 0 [.string (strB s), .int .i64 i] rfl (At.left (xs := [tv, uv]) (BL.all (HQ1.out.kept HD2.out))) rfl ?_)
       | ((with_reducible show OpW 30); refine wpList_loadvg _ rfl 39 (.tmp 29) rfl 2 (by kernel_rfl) wx.heap.size 0 [.string (strB sy), .int .i64 zy] rfl (At.left (xs := [tvy, uvy]) (BL.all HE2.out)) rfl ?_)
       | (go_at_call 53; refine (rless_any s sy i zy y2).mono ?_; rintro e y3 ⟨rfl, b1⟩; rw [HLT.out]; have HE3 := Lib.hid (HE2.out.kept b1); have HX3 := Lib.hid (below_thenB HX2.out HX2.out.size b1); have HD3 := Lib.hid (below_thenB HD2.out HD2.out.size b1); clear b1)
       | ((with_reducible show OpW 38); refine wpList_loadv _ rfl 39 (.tmp 37) rfl 2 (by kernel_rfl) wx.heap.size 0 [.string (strB sy), .int .i64 zy] rfl (At.left (xs := [tvy, uvy]) (BL.all HE3.out)) rfl ?_)
       | ((with_reducible show OpW 40); refine wpList_loadv _ rfl 39 (.tmp 39) rfl 2 (by kernel_rfl) w.heap.size 0 [.string (strB s), .int .i64 i] rfl (At.left (xs := [tv, uv]) (BL.all (HQ1.out.kept HD3.out))) rfl ?_)
       | ((with_reducible show OpW 43); refine wpList_loadv _ rfl 54 (.tmp 8) rfl 4 (by kernel_rfl) wx.heap.size 0 [.string (strB sy), .int .i64 zy, tvy, uvy] rfl (BL.all HE3.out) rfl ?_)
       | ((with_reducible show OpW 44); refine wpList_bslice _ rfl 29 54 1 _ rfl #[(0, .agg [.string (strB sy), .int .i64 zy, tvy, uvy].toArray)] (by rw [List.map_toArray]; rfl) [.string (strB sy), .int .i64 zy, tvy, uvy] (by exact bslReF _ _ _ _ _) ?_; intro y6 a1 a2 a3; have HN6 := Lib.hid a1; have HRL6 := Lib.hid ((Lib.hid (hrl.out.kept HX3.out)).out.kept a2); have HD6 := Lib.hid (below_thenB HD3.out HD3.out.size a2); clear a1 a2 a3)
       | ((with_reducible show OpW 45); obtain ⟨iS, i1, i2, i3, i4⟩ := info_some infoReF; refine wpList_appRW _ rfl (.tmp 42) (.tmp 44) 29 54 4 iS _ rfl Tryz.underlying29 i1 i2 i3 rfl _ _ _ rfl HRL6.out.row y3.heap.size _ rfl HN6.out rfl HONE.out (by rw [i4]; have := HOL.out; (try simp only [List.length_append, List.length_cons, List.length_nil]); omega) (by have := HOL.out; (try simp only [List.length_append, List.length_cons, List.length_nil]); omega) ?_; intro v7 y7 ap; have HRL7 := Lib.hid (HRL6.out.push (x := ⟨⟨sy, zy, tky, usy⟩, tvy, uvy⟩) (HSY.out.kept (below_then HB1.out HD6.out)) HYL.out HD6.out.size ap); have HD7 : Hid (Below w1.heap.size w1 y7) := Lib.hid (low_own HD6.out ap.kp (fun i hi e => by have := HRL6.out.vlo i e; omega)); clear ap i1 i2 i3 i4)
       | fail)
      go_roundw
      case rel => exact ⟨k + 1, false, out ++ [⟨⟨sy, zy, tky, usy⟩, tvy, uvy⟩], by omega, by go_num, rfl, Lib.hid (by rw [List.append_assoc]; exact HNX.out), HRL7, Lib.hid (by have := hol.out; rw [List.length_append, List.length_singleton]; omega), HD7⟩
      case measure => simp [intOf]; omega
    | true =>
     cases EQ with
     | true =>
      go_wp2_with (first
       | ((with_reducible show OpW 23); refine wpList_loadv _ rfl 54 (.tmp 22) rfl 4 (by kernel_rfl) g' (o' + k * 4) [.string (strB sy), .int .i64 zy, tvy, uvy] (by go_simp) HAT.out rfl ?_)
       | ((with_reducible show OpW 8); refine wpList_alloc _ rfl 54 rfl reZ reZeroF ?_; intro y1 a1 a2 a3; have HE1 := Lib.hid a1; have HX1 := Lib.hid a2; clear a1 a2 a3)
       | ((with_reducible show OpN); refine wpList_storev _ rfl 54 (.tmp 8) (.tmp 23) rfl 4 (by kernel_rfl) wx.heap.size 0 _ reZ [.string (strB sy), .int .i64 zy, tvy, uvy] rfl rfl HE1.out rfl HONE.out (by decide) ?_; intro y2 a1 a2 a3; have HE2 : Hid (BL y2 wx.heap.size 54 [.string (strB sy), .int .i64 zy, tvy, uvy]) := Lib.hid a1; have HX2 : Hid (Below wx.heap.size wx y2) := Lib.hid (low_own HX1.out a2 (fun i hi e => by omega)); have HD2 : Hid (Below w1.heap.size w1 y2) := Lib.hid (below_thenB hb.out hb.out.size HX2.out); clear a1 a2 a3)
       | ((with_reducible show OpW 28); refine wpList_loadvg _ rfl 39 (.tmp 27) rfl 2 (by kernel_rfl) w.heap.size 0 [.string (strB s), .int .i64 i] rfl (At.left (xs := [tv, uv]) (BL.all (HQ1.out.kept HD2.out))) rfl ?_)
       | ((with_reducible show OpW 30); refine wpList_loadvg _ rfl 39 (.tmp 29) rfl 2 (by kernel_rfl) wx.heap.size 0 [.string (strB sy), .int .i64 zy] rfl (At.left (xs := [tvy, uvy]) (BL.all HE2.out)) rfl ?_)
       | (go_at_call 53; refine (rless_any s sy i zy y2).mono ?_; rintro e y3 ⟨rfl, b1⟩; rw [HLT.out]; have HE3 := Lib.hid (HE2.out.kept b1); have HX3 := Lib.hid (below_thenB HX2.out HX2.out.size b1); have HD3 := Lib.hid (below_thenB HD2.out HD2.out.size b1); clear b1)
       | ((with_reducible show OpW 34); refine wpList_loadv _ rfl 54 (.tmp 3) rfl 4 (by kernel_rfl) w.heap.size 0 [.string (strB s), .int .i64 i, tv, uv] rfl (BL.all (HQ1.out.kept HD3.out)) rfl ?_)
       | ((with_reducible show OpW 35); refine wpList_bslice _ rfl 29 54 1 _ rfl #[(0, .agg [.string (strB s), .int .i64 i, tv, uv].toArray)] (by rw [List.map_toArray]; rfl) [.string (strB s), .int .i64 i, tv, uv] (by exact bslReF _ _ _ _ _) ?_; intro y4 a1 a2 a3; have HN4 := Lib.hid a1; have HX4 := Lib.hid (below_thenB HX3.out HX3.out.size a2); have HE4 := Lib.hid (HE3.out.kept a2); have HRL4 := Lib.hid (hrl.out.kept HX4.out); have HD4 := Lib.hid (below_thenB hb.out hb.out.size HX4.out); clear a1 a2 a3)
       | ((with_reducible show OpW 36); obtain ⟨iS, i1, i2, i3, i4⟩ := info_some infoReF; refine wpList_appRW _ rfl (.tmp 33) (.tmp 35) 29 54 4 iS _ rfl Tryz.underlying29 i1 i2 i3 rfl _ _ _ rfl HRL4.out.row y3.heap.size _ rfl HN4.out rfl HONX.out (by rw [i4]; omega) (by omega) ?_; intro v5 y5 ap; have HRL5 : Hid (RLo y5 w1.heap.size v5 (out ++ [⟨⟨s, i, tk, us⟩, tv, uv⟩])) := Lib.hid (HRL4.out.push (HSX.out.kept (below_then HB1.out HD4.out)) HXL.out HD4.out.size ap); have HE5 := Lib.hid (ap.kp.bl HE4.out (fun e => by have := hrl.out.row.lt e; omega)); have HD5 : Hid (Below w1.heap.size w1 y5) := Lib.hid (low_own HD4.out ap.kp (fun i hi e => by have := hrl.out.vlo i e; omega)); clear ap i1 i2 i3 i4)
       | ((with_reducible show OpW 38); refine wpList_loadv _ rfl 39 (.tmp 37) rfl 2 (by kernel_rfl) wx.heap.size 0 [.string (strB sy), .int .i64 zy] rfl (At.left (xs := [tvy, uvy]) (BL.all HE5.out)) rfl ?_)
       | ((with_reducible show OpW 40); refine wpList_loadv _ rfl 39 (.tmp 39) rfl 2 (by kernel_rfl) w.heap.size 0 [.string (strB s), .int .i64 i] rfl (At.left (xs := [tv, uv]) (BL.all (HQ1.out.kept HD5.out))) rfl ?_)
       | fail)
      go_roundw
      case rel => exact ⟨k + 1, true, out ++ [⟨⟨s, i, tk, us⟩, tv, uv⟩], by omega, by go_num, rfl, Lib.hid (by rw [List.append_assoc]; exact HNX.out), HRL5, Lib.hid (by have := hol.out; rw [List.length_append, List.length_singleton]; omega), HD5⟩
      case measure => simp [intOf]; omega
     | false =>
      go_wp2_with (first
       | ((with_reducible show OpW 23); refine wpList_loadv _ rfl 54 (.tmp 22) rfl 4 (by kernel_rfl) g' (o' + k * 4) [.string (strB sy), .int .i64 zy, tvy, uvy] (by go_simp) HAT.out rfl ?_)
       | ((with_reducible show OpW 8); refine wpList_alloc _ rfl 54 rfl reZ reZeroF ?_; intro y1 a1 a2 a3; have HE1 := Lib.hid a1; have HX1 := Lib.hid a2; clear a1 a2 a3)
       | ((with_reducible show OpN); refine wpList_storev _ rfl 54 (.tmp 8) (.tmp 23) rfl 4 (by kernel_rfl) wx.heap.size 0 _ reZ [.string (strB sy), .int .i64 zy, tvy, uvy] rfl rfl HE1.out rfl HONE.out (by decide) ?_; intro y2 a1 a2 a3; have HE2 : Hid (BL y2 wx.heap.size 54 [.string (strB sy), .int .i64 zy, tvy, uvy]) := Lib.hid a1; have HX2 : Hid (Below wx.heap.size wx y2) := Lib.hid (low_own HX1.out a2 (fun i hi e => by omega)); have HD2 : Hid (Below w1.heap.size w1 y2) := Lib.hid (below_thenB hb.out hb.out.size HX2.out); clear a1 a2 a3)
       | ((with_reducible show OpW 28); refine wpList_loadvg _ rfl 39 (.tmp 27) rfl 2 (by kernel_rfl) w.heap.size 0 [.string (strB s), .int .i64 i] rfl (At.left (xs := [tv, uv]) (BL.all (HQ1.out.kept HD2.out))) rfl ?_)
       | ((with_reducible show OpW 30); refine wpList_loadvg _ rfl 39 (.tmp 29) rfl 2 (by kernel_rfl) wx.heap.size 0 [.string (strB sy), .int .i64 zy] rfl (At.left (xs := [tvy, uvy]) (BL.all HE2.out)) rfl ?_)
       | (go_at_call 53; refine (rless_any s sy i zy y2).mono ?_; rintro e y3 ⟨rfl, b1⟩; rw [HLT.out]; have HE3 := Lib.hid (HE2.out.kept b1); have HX3 := Lib.hid (below_thenB HX2.out HX2.out.size b1); have HD3 := Lib.hid (below_thenB HD2.out HD2.out.size b1); clear b1)
       | ((with_reducible show OpW 34); refine wpList_loadv _ rfl 54 (.tmp 3) rfl 4 (by kernel_rfl) w.heap.size 0 [.string (strB s), .int .i64 i, tv, uv] rfl (BL.all (HQ1.out.kept HD3.out)) rfl ?_)
       | ((with_reducible show OpW 35); refine wpList_bslice _ rfl 29 54 1 _ rfl #[(0, .agg [.string (strB s), .int .i64 i, tv, uv].toArray)] (by rw [List.map_toArray]; rfl) [.string (strB s), .int .i64 i, tv, uv] (by exact bslReF _ _ _ _ _) ?_; intro y4 a1 a2 a3; have HN4 := Lib.hid a1; have HX4 := Lib.hid (below_thenB HX3.out HX3.out.size a2); have HE4 := Lib.hid (HE3.out.kept a2); have HRL4 := Lib.hid (hrl.out.kept HX4.out); have HD4 := Lib.hid (below_thenB hb.out hb.out.size HX4.out); clear a1 a2 a3)
       | ((with_reducible show OpW 36); obtain ⟨iS, i1, i2, i3, i4⟩ := info_some infoReF; refine wpList_appRW _ rfl (.tmp 33) (.tmp 35) 29 54 4 iS _ rfl Tryz.underlying29 i1 i2 i3 rfl _ _ _ rfl HRL4.out.row y3.heap.size _ rfl HN4.out rfl HONX.out (by rw [i4]; omega) (by omega) ?_; intro v5 y5 ap; have HRL5 : Hid (RLo y5 w1.heap.size v5 (out ++ [⟨⟨s, i, tk, us⟩, tv, uv⟩])) := Lib.hid (HRL4.out.push (HSX.out.kept (below_then HB1.out HD4.out)) HXL.out HD4.out.size ap); have HE5 := Lib.hid (ap.kp.bl HE4.out (fun e => by have := hrl.out.row.lt e; omega)); have HD5 : Hid (Below w1.heap.size w1 y5) := Lib.hid (low_own HD4.out ap.kp (fun i hi e => by have := hrl.out.vlo i e; omega)); clear ap i1 i2 i3 i4)
       | ((with_reducible show OpW 38); refine wpList_loadv _ rfl 39 (.tmp 37) rfl 2 (by kernel_rfl) wx.heap.size 0 [.string (strB sy), .int .i64 zy] rfl (At.left (xs := [tvy, uvy]) (BL.all HE5.out)) rfl ?_)
       | ((with_reducible show OpW 40); refine wpList_loadv _ rfl 39 (.tmp 39) rfl 2 (by kernel_rfl) w.heap.size 0 [.string (strB s), .int .i64 i] rfl (At.left (xs := [tv, uv]) (BL.all (HQ1.out.kept HD5.out))) rfl ?_)
       | ((with_reducible show OpW 43); refine wpList_loadv _ rfl 54 (.tmp 8) rfl 4 (by kernel_rfl) wx.heap.size 0 [.string (strB sy), .int .i64 zy, tvy, uvy] rfl (BL.all HE5.out) rfl ?_)
       | ((with_reducible show OpW 44); refine wpList_bslice _ rfl 29 54 1 _ rfl #[(0, .agg [.string (strB sy), .int .i64 zy, tvy, uvy].toArray)] (by rw [List.map_toArray]; rfl) [.string (strB sy), .int .i64 zy, tvy, uvy] (by exact bslReF _ _ _ _ _) ?_; intro y6 a1 a2 a3; have HN6 := Lib.hid a1; have HRL6 := Lib.hid (HRL5.out.kept a2); have HD6 := Lib.hid (below_thenB HD5.out HD5.out.size a2); clear a1 a2 a3)
       | ((with_reducible show OpW 45); obtain ⟨iS, i1, i2, i3, i4⟩ := info_some infoReF; refine wpList_appRW _ rfl (.tmp 42) (.tmp 44) 29 54 4 iS _ rfl Tryz.underlying29 i1 i2 i3 rfl _ _ _ rfl HRL6.out.row y5.heap.size _ rfl HN6.out rfl HONE.out (by rw [i4]; have := HOL.out; (try simp only [List.length_append, List.length_cons, List.length_nil]); omega) (by have := HOL.out; (try simp only [List.length_append, List.length_cons, List.length_nil]); omega) ?_; intro v7 y7 ap; have HRL7 := Lib.hid (HRL6.out.push (x := ⟨⟨sy, zy, tky, usy⟩, tvy, uvy⟩) (HSY.out.kept (below_then HB1.out HD6.out)) HYL.out HD6.out.size ap); have HD7 : Hid (Below w1.heap.size w1 y7) := Lib.hid (low_own HD6.out ap.kp (fun i hi e => by have := HRL6.out.vlo i e; omega)); clear ap i1 i2 i3 i4)
       | fail)
      go_roundw
      case rel => exact ⟨k + 1, true, out ++ [⟨⟨s, i, tk, us⟩, tv, uv⟩] ++ [⟨⟨sy, zy, tky, usy⟩, tvy, uvy⟩], by omega, by go_num, rfl, Lib.hid (by rw [List.append_assoc, List.append_assoc]; exact HNX.out), HRL7, Lib.hid (by have := hol.out; rw [List.length_append, List.length_append, List.length_singleton, List.length_singleton]; omega), HD7⟩
      case measure => simp [intOf]; omega
  ·
   obtain rfl : k = n := by omega
   have HFIN : Hid (out ++ (if done = true then [] else [⟨⟨s, i, tk, us⟩, tv, uv⟩]) = R) := Lib.hid (by
    have h9 := hrr.out
    rw [HN.out, List.drop_length] at h9
    exact h9)
   clear hrr
   cases done with
   | true =>
    have HF2 : Hid (out = R) := Lib.hid (by have h9 := HFIN.out; simpa using h9)
    go_wp2_with fail
    go_ret
    rw [← HF2.out]
    exact ⟨_, rfl, ⟨hrl.out.row, hrl.out.ok⟩, fun q hq => by have := hrl.out.vlo q hq; have := HZ1.out; omega, below_then HB1.out hb.out⟩
   | false =>
    have HF2 : Hid (out ++ [⟨⟨s, i, tk, us⟩, tv, uv⟩] = R) := Lib.hid (by have h9 := HFIN.out; simpa using h9)
    go_wp2_with (first
     | ((with_reducible show OpW 50); refine wpList_loadv _ rfl 54 (.tmp 3) rfl 4 (by kernel_rfl) w.heap.size 0 [.string (strB s), .int .i64 i, tv, uv] rfl (BL.all (HQ1.out.kept hb.out)) rfl ?_)
     | ((with_reducible show OpW 51); refine wpList_bslice _ rfl 29 54 1 _ rfl #[(0, .agg [.string (strB s), .int .i64 i, tv, uv].toArray)] (by rw [List.map_toArray]; rfl) [.string (strB s), .int .i64 i, tv, uv] (by exact bslReF _ _ _ _ _) ?_; intro y4 a1 a2 a3; have HN4 := Lib.hid a1; have HRL4 := Lib.hid (hrl.out.kept a2); have HD4 := Lib.hid (below_thenB hb.out hb.out.size a2); clear a1 a2 a3)
     | ((with_reducible show OpW 52); obtain ⟨iS, i1, i2, i3, i4⟩ := info_some infoReF; refine wpList_appRW _ rfl (.tmp 49) (.tmp 51) 29 54 4 iS _ rfl Tryz.underlying29 i1 i2 i3 rfl _ _ _ rfl HRL4.out.row wx.heap.size _ rfl HN4.out rfl HONX.out (by rw [i4]; omega) (by omega) ?_; intro v5 y5 ap; have HRL5 : Hid (RLo y5 w1.heap.size v5 (out ++ [⟨⟨s, i, tk, us⟩, tv, uv⟩])) := Lib.hid (HRL4.out.push (HSX.out.kept (below_then HB1.out HD4.out)) HXL.out HD4.out.size ap); have HD5 : Hid (Below w1.heap.size w1 y5) := Lib.hid (low_own HD4.out ap.kp (fun i hi e => by have := hrl.out.vlo i e; omega)); clear ap i1 i2 i3 i4))
    go_ret
    rw [← HF2.out]
    exact ⟨_, rfl, ⟨HRL5.out.row, HRL5.out.ok⟩, fun q hq => by have := HRL5.out.vlo q hq; have := HZ1.out; omega, below_then HB1.out HD5.out⟩
end Go.Proofs.YtheijpjfpaghfaaGreatDoor
