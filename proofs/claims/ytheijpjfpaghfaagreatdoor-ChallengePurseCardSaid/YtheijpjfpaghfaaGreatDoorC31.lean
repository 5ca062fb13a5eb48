/- Several texts in one: Hk. -/
import Derived.Test.YtheijpjfpaghfaaGreatDoorC30
import Derived.Test.YtheijpjfpaghfaaGreatDoorC18
/- The reference's entries: Less, Knows, Size. -/
namespace Go.Proofs.YtheijpjfpaghfaaGreatDoor
open Go Go.RowKit Gf Sha

set_option maxRecDepth 100000 in
set_option maxHeartbeats 1000000 in
theorem rless_any (s t : List UInt8) (i j : Int) (w : World) :
  Calls Tryz.prog 53 #[.agg #[.string (strB s), .int .i64 i], .agg #[.string (strB t), .int .i64 j]] w fun e w' => e = .returned (.bool (ltI (s, i) (t, j))) ∧ Below w.heap.size w w' := by
 have e1 := less_strB s t
 have e2 := strB_eq s t
 by_cases h1 : s < t
 ·
  rw [decide_eq_true h1] at e1
  have HE : Hid (ltI (s, i) (t, j) = true) := Lib.hid (by rw [ltI_iff]; exact .inl h1)
  clear h1 e2
  go_enter Tryz.func53, Tryz.ntmps53
  go_wp2_with (first
   | ((with_reducible show OpW 2); refine wpList_box _ rfl 39 (.tmp 0) rfl [.string (strB s), .int .i64 i] rfl ?_; intro w1 a1 a2 a3; have HP1 := Lib.hid a1; have HB1 := Lib.hid a2; clear a1 a2 a3)
   | ((with_reducible show OpW 3); refine wpList_box _ rfl 39 (.tmp 1) rfl [.string (strB t), .int .i64 j] rfl ?_; intro w2 a1 a2 a3; have p0 := (HP1.out.kept a2).get (j := 0) rfl; have p1 := (HP1.out.kept a2).get (j := 1) rfl; have p2 := BL.get a1 (j := 0) rfl; have p3 := BL.get a1 (j := 1) rfl; have HB2 := Lib.hid (below_thenB HB1.out HB1.out.size a2); clear a1 a2 a3))
  go_ret
  exact ⟨ret_bool HE.out.symm, HB2.out⟩
 ·
  rw [decide_eq_false h1] at e1
  by_cases h2 : s = t
  ·
   rw [decide_eq_true h2] at e2
   have HE : Hid (ltI (s, i) (t, j) = decide (i < j)) := Lib.hid (by
    rw [Bool.eq_iff_iff, ltI_iff, decide_eq_true_eq]
    exact ⟨fun h => h.elim (fun h => absurd h h1) (·.2), fun h => .inr ⟨h2, h⟩⟩)
   clear h1 h2
   go_enter Tryz.func53, Tryz.ntmps53
   go_wp2_with (first
    | ((with_reducible show OpW 2); refine wpList_box _ rfl 39 (.tmp 0) rfl [.string (strB s), .int .i64 i] rfl ?_; intro w1 a1 a2 a3; have HP1 := Lib.hid a1; have HB1 := Lib.hid a2; clear a1 a2 a3)
    | ((with_reducible show OpW 3); refine wpList_box _ rfl 39 (.tmp 1) rfl [.string (strB t), .int .i64 j] rfl ?_; intro w2 a1 a2 a3; have p0 := (HP1.out.kept a2).get (j := 0) rfl; have p1 := (HP1.out.kept a2).get (j := 1) rfl; have p2 := BL.get a1 (j := 0) rfl; have p3 := BL.get a1 (j := 1) rfl; have HB2 := Lib.hid (below_thenB HB1.out HB1.out.size a2); clear a1 a2 a3))
   go_ret
   exact ⟨ret_bool HE.out.symm, HB2.out⟩
  ·
   rw [decide_eq_false h2] at e2
   have HE : Hid (ltI (s, i) (t, j) = false) := Lib.hid (by
    rw [Bool.eq_false_iff, ne_eq, ltI_iff]
    exact fun h => h.elim h1 (fun h => h2 h.1))
   clear h1 h2
   go_enter Tryz.func53, Tryz.ntmps53
   go_wp2_with (first
    | ((with_reducible show OpW 2); refine wpList_box _ rfl 39 (.tmp 0) rfl [.string (strB s), .int .i64 i] rfl ?_; intro w1 a1 a2 a3; have HP1 := Lib.hid a1; have HB1 := Lib.hid a2; clear a1 a2 a3)
    | ((with_reducible show OpW 3); refine wpList_box _ rfl 39 (.tmp 1) rfl [.string (strB t), .int .i64 j] rfl ?_; intro w2 a1 a2 a3; have p0 := (HP1.out.kept a2).get (j := 0) rfl; have p1 := (HP1.out.kept a2).get (j := 1) rfl; have p2 := BL.get a1 (j := 0) rfl; have p3 := BL.get a1 (j := 1) rfl; have HB2 := Lib.hid (below_thenB HB1.out HB1.out.size a2); clear a1 a2 a3))
   go_ret
   exact ⟨ret_bool HE.out.symm, HB2.out⟩

/-- An entry's slices in the reference. -/
structure SOf (w : World) (x : Se) : Prop where
 t : RW w 45 4 x.tv x.e.tk.length (x.e.tk.flatMap (tokC x.e.s x.e.i))
 u : RW w 9 1 x.uv x.e.us.length (x.e.us.map usC)
 bt : x.e.tk.length ≤ 100000
 bu : x.e.us.length ≤ 100000
theorem SOf.kp {S : Nat → Prop} {w w' : World} {x : Se} (h : SOf w x) (hk : Kp S w w') (hn : ∀ b, x.has b → ¬ S b) : SOf w' x :=
 ⟨h.t.kp hk (fun b hb => hn b (.inl hb)), h.u.kp hk (fun b hb => hn b (.inr hb)), h.bt, h.bu⟩
theorem SOf.kept {w w' : World} {x : Se} (h : SOf w x) (hb : Below w.heap.size w w') : SOf w' x := ⟨h.t.kept hb, h.u.kept hb, h.bt, h.bu⟩
theorem SOf.lt {w : World} {x : Se} (h : SOf w x) {b : Nat} (hb : x.has b) : b < w.heap.size := hb.elim h.t.lt h.u.lt
theorem seC_onef {w : World} {x : Se} (h : SOf w x) : ∀ v ∈ seC x, v.oneCell' = true := by
 obtain ⟨A1, c1, x1, _⟩ := h.t.form
 obtain ⟨A2, c2, x2, _⟩ := h.u.form
 intro v hv
 simp only [seC, List.mem_cons, List.not_mem_nil, or_false] at hv
 rcases hv with rfl | rfl | rfl | rfl
 ·
  rfl
 ·
  rfl
 ·
  rw [x1]; rfl
 ·
  rw [x2]; rfl
theorem reZeroF : (Tryz.prog.info? 54).map (·.zero) = some (some (.agg reZ.toArray)) := by kernel_rfl
theorem infoReF : (Tryz.prog.info? 54).map (fun i => (i.zero, i.size, i.bytes)) = some (some (.agg reZ.toArray), 4, 72) := by kernel_rfl
theorem bslReF (s : List UInt8) (i : Int) (tv uv : Value) (w : World) : (Instr.buildSlice 29 1 #[(0, .agg [.string (strB s), .int .i64 i, tv, uv].toArray)]).run Tryz.prog w = .ok (.slice (some ⟨w.heap.size, 0, none⟩) 1 1) (w.alloc (.cells [.string (strB s), .int .i64 i, tv, uv].toArray 54)) := by kernel_rfl
theorem tokZero' : (Tryz.prog.info? 45).map (·.zero) = some (some (.agg tokZ.toArray)) := by kernel_rfl
theorem tokC_len (s : List UInt8) (i : Int) (x : Sc) : (tokC s i x).length = 4 := rfl
/-- Entries that are built: each has slices of its own. -/
structure RLf (w : World) (base : Nat) (v : Value) (rs : List Se) : Prop where
 row : RW w 54 4 v rs.length (rs.flatMap seC)
 ok : ∀ x ∈ rs, SOf w x
 ap : rs.Pairwise (fun x y => ∀ b, x.has b → ¬ y.has b)
 lo : ∀ x ∈ rs, ∀ q, x.has q → base ≤ q
 vlo : ∀ q, v.ownBlock = some q → base ≤ q
 vap : ∀ x ∈ rs, ∀ q, v.ownBlock = some q → ¬ x.has q
section
variable {w w' : World} {base : Nat} {v v' : Value} {rs : List Se}
theorem RLf.nil (w : World) (base : Nat) : RLf w base (.slice none 0 0) [] := ⟨RW.nil _ _ _, fun _ h => (by cases h), List.Pairwise.nil, fun _ h => (by cases h), fun _ h => (by cases h), fun _ h => (by cases h)⟩
theorem RLf.kept (h : RLf w base v rs) (hb : Below w.heap.size w w') : RLf w' base v rs := ⟨h.row.kept hb, fun x hx => (h.ok x hx).kept hb, h.ap, h.lo, h.vlo, h.vap⟩
theorem RLf.kp {S : Nat → Prop} (h : RLf w base v rs) (hk : Kp S w w') (hS : ∀ q, base ≤ q → ¬ S q) : RLf w' base v rs :=
 ⟨h.row.kp hk (fun q hq => hS q (h.vlo q hq)), fun x hx => (h.ok x hx).kp hk (fun q hq => hS q (h.lo x hx q hq)), h.ap, h.lo, h.vlo, h.vap⟩
theorem RLf.lt (h : RLf w base v rs) {x : Se} (hx : x ∈ rs) {q : Nat} (hq : x.has q) : q < w.heap.size := (h.ok x hx).lt hq
/-- A new record is put behind them. -/
theorem RLf.push {x : Se} {w1 w2 : World} (h : RLf w base v rs) (h1 : RLf w1 base v rs) (hx : SOf w1 x) (hn : ∀ q, x.has q → w.heap.size ≤ q) (hb : base ≤ w.heap.size) (hle : w.heap.size ≤ w1.heap.size) (ap : AppR w1 54 4 v rs.length 1 (rs.flatMap seC) (seC x) v' w2) : RLf w2 base v' (rs ++ [x]) := by
 have hvx : ∀ q, v.ownBlock = some q → ¬ x.has q := fun q hq hq2 => by have := h.row.lt hq; have := hn q hq2; omega
 refine ⟨?_, fun y hy => ?_, List.pairwise_append.2 ⟨h.ap, by simp, fun y hy z hz q hq hq2 => ?_⟩, fun y hy q hq => ?_, fun q hq => (ap.own q hq).elim (h.vlo q) (fun h9 => by omega), fun y hy q hq hq2 => ?_⟩
 ·
  have h9 := ap.row
  rw [List.flatMap_append, List.length_append]
  simpa using h9
 ·
  rcases List.mem_append.1 hy with h9 | h9
  ·
   exact (h1.ok y h9).kp ap.kp (fun q hq hq2 => h.vap y h9 q hq2 hq)
  ·
   rw [List.mem_singleton.1 h9]
   exact hx.kp ap.kp (fun q hq hq2 => hvx q hq2 hq)
 ·
  rw [List.mem_singleton.1 hz] at hq2
  have := h.lt hy hq
  have := hn q hq2
  omega
 ·
  rcases List.mem_append.1 hy with h9 | h9
  ·
   exact h.lo y h9 q hq
  ·
   rw [List.mem_singleton.1 h9] at hq
   have := hn q hq
   omega
 ·
  rcases ap.own q hq with h8 | h8
  ·
   rcases List.mem_append.1 hy with h9 | h9
   ·
    exact h.vap y h9 q h8 hq2
   ·
    rw [List.mem_singleton.1 h9] at hq2
    exact hvx q h8 hq2
  ·
   rcases List.mem_append.1 hy with h9 | h9
   ·
    have := h1.lt h9 hq2
    omega
   ·
    rw [List.mem_singleton.1 h9] at hq2
    have := hx.lt hq2
    omega
end

set_option maxRecDepth 100000 in
set_option maxHeartbeats 2000000 in
/-- Does an entry know a nonce? -/
theorem rknows_any (w : World) (s0 : List UInt8) (i0 : Int) (tv uv : Value) (s : List UInt8) (i : Int) (tk : List Sc) (us : List (List UInt8)) (x : List UInt8) (ht : RW w 45 4 tv tk.length (tk.flatMap (tokC s i))) (hu : RW w 9 1 uv us.length (us.map usC)) (b1 : tk.length ≤ 100000) (b2 : us.length ≤ 100000) :
  Calls Tryz.prog 51 #[.agg #[.string (strB s0), .int .i64 i0, tv, uv], .string (strB x)] w fun e w' => e = .returned (.bool (decide (x ∈ us ++ tk.map (·.1)))) ∧ Below w.heap.size w w' := by
 obtain ⟨A, c, rfl, _⟩ := ht.form
 obtain ⟨A2, c2, rfl, _⟩ := hu.form
 obtain ⟨n, hn⟩ : ∃ n, n = tk.length := ⟨_, rfl⟩
 obtain ⟨m, hm⟩ : ∃ m, m = us.length := ⟨_, rfl⟩
 rw [← hn] at ht b1 ⊢
 rw [← hm] at hu b2 ⊢
 have HT := Lib.hid ht
 have HU := Lib.hid hu
 have HN := Lib.hid hn
 have HM := Lib.hid hm
 clear ht hu hn hm
 go_enter Tryz.func51, Tryz.ntmps51
 go_wp2_with ((with_reducible show OpW 2); refine wpList_box _ rfl 54 (.tmp 0) rfl [.string (strB s0), .int .i64 i0, .slice A n c, .slice A2 m c2] rfl ?_; intro w1 a1 a2 a3; have HP1 := Lib.hid a1; have HB1 := Lib.hid a2; have q2 := BL.get a1 (j := 2) rfl; have q3 := BL.get a1 (j := 3) rfl; clear a1 a2 a3)
 go_loopw [12] (fun iv wr => ∃ k : Nat, k ≤ n ∧ iv = .int .i64 (k : Int) ∧ Hid (∀ y ∈ (tk.take k).map (·.1), y ≠ x) ∧ Hid (Below w1.heap.size w1 wr)) (fun iv _ => n - (intOf iv).toNat)
 case atStart => exact ⟨0, by omega, rfl, Lib.hid (fun y hy => by simp at hy), Lib.hid (Below.refl _ _)⟩
 case round =>
  obtain ⟨k, hk, rfl, hno, hb⟩ := hrel
  obtain ⟨wx, hwx⟩ : ∃ x, x = wr := ⟨_, rfl⟩
  rw [← hwx] at hb ⊢
  clear hwx
  by_cases hlt : k < n
  ·
   have hkl : k < tk.length := by rw [← HN.out]; exact hlt
   obtain ⟨g, o, c', e, _, hat⟩ := HT.out.at_ (by omega)
   cases e
   obtain ⟨p, hp⟩ : ∃ p, p = tk[k] := ⟨_, rfl⟩
   have HTA := Lib.hid ((At.elem (f := tokC s i) (tokC_len s i) hat hkl).kept (below_thenB HB1.out HB1.out.size hb.out))
   rw [← hp] at HTA
   have HTK : Hid ((tk.take (k + 1)).map (·.1) = (tk.take k).map (·.1) ++ [p.1]) := Lib.hid (by rw [List.take_succ_eq_append_getElem hkl, List.map_append, hp]; rfl)
   have HMEM : Hid (p.1 ∈ us ++ tk.map (·.1)) := Lib.hid (List.mem_append_right _ (List.mem_map.2 ⟨p, by rw [hp]; exact List.getElem_mem hkl, rfl⟩))
   have e2 := strB_eq p.1 x
   clear hat hp
   by_cases h : p.1 = x
   ·
    rw [decide_eq_true h] at e2
    have HC : Hid (decide (x ∈ us ++ tk.map (·.1)) = true) := Lib.hid (by rw [decide_eq_true_eq, ← h]; exact HMEM.out)
    clear h
    go_wp2_with (first
     | ((with_reducible show OpW 15); refine wpList_loadv _ rfl 45 (.tmp 14) rfl 4 (by kernel_rfl) g (o + k * 4) (tokC s i p) (by go_simp) HTA.out rfl ?_)
     | ((with_reducible show OpW 6); refine wpList_alloc _ rfl 45 rfl tokZ tokZero' ?_; intro w2 a1 a2 a3; have HV2 := Lib.hid a1; have HX2 := Lib.hid a2; clear a1 a2 a3)
     | ((with_reducible show OpN); refine wpList_storev _ rfl 45 (.tmp 6) (.tmp 15) rfl 4 (by kernel_rfl) wx.heap.size 0 _ tokZ (tokC s i p) rfl rfl HV2.out rfl (tokC_one _ _ _) (by decide) ?_; intro w3 a1 a2 a3; have q9 : w3.cell? ⟨wx.heap.size, 2, none⟩ = some (.string (strB p.1)) := BL.get (l := tokC s i p) a1 (j := 2) rfl; have HX3 : Hid (Below wx.heap.size wx w3) := Lib.hid (low_own HX2.out a2 (fun i hi e => by omega)); clear a1 a2 a3)
     | fail)
    go_ret
    exact ⟨ret_bool HC.out.symm, (below_thenB HB1.out HB1.out.size (below_thenB hb.out hb.out.size HX3.out))⟩
   ·
    rw [decide_eq_false h] at e2
    have HNO : Hid (∀ y ∈ (tk.take (k + 1)).map (·.1), y ≠ x) := Lib.hid (by
     rw [HTK.out]
     intro y hy
     rcases List.mem_append.1 hy with h9 | h9
     ·
      exact hno.out y h9
     ·
      rw [List.mem_singleton.1 h9]; exact h)
    clear h
    go_wp2_with (first
     | ((with_reducible show OpW 15); refine wpList_loadv _ rfl 45 (.tmp 14) rfl 4 (by kernel_rfl) g (o + k * 4) (tokC s i p) (by go_simp) HTA.out rfl ?_)
     | ((with_reducible show OpW 6); refine wpList_alloc _ rfl 45 rfl tokZ tokZero' ?_; intro w2 a1 a2 a3; have HV2 := Lib.hid a1; have HX2 := Lib.hid a2; clear a1 a2 a3)
     | ((with_reducible show OpN); refine wpList_storev _ rfl 45 (.tmp 6) (.tmp 15) rfl 4 (by kernel_rfl) wx.heap.size 0 _ tokZ (tokC s i p) rfl rfl HV2.out rfl (tokC_one _ _ _) (by decide) ?_; intro w3 a1 a2 a3; have q9 : w3.cell? ⟨wx.heap.size, 2, none⟩ = some (.string (strB p.1)) := BL.get (l := tokC s i p) a1 (j := 2) rfl; have HX3 : Hid (Below wx.heap.size wx w3) := Lib.hid (low_own HX2.out a2 (fun i hi e => by omega)); clear a1 a2 a3)
     | fail)
    go_roundw
    case rel => exact ⟨k + 1, by omega, by go_num, HNO, Lib.hid (below_thenB hb.out hb.out.size HX3.out)⟩
    case measure => simp [intOf]; omega
  ·
   obtain rfl : k = n := by omega
   have q3' : wx.cell? ⟨w.heap.size, 3, none⟩ = some (.slice A2 m c2) := (HP1.out.kept hb.out).get (j := 3) rfl
   have HNO : Hid (∀ y ∈ tk.map (·.1), y ≠ x) := Lib.hid (by
    have h9 := hno.out
    rw [HN.out, List.take_length] at h9
    exact h9)
   have HUX := Lib.hid (HU.out.kept (below_thenB HB1.out HB1.out.size hb.out))
   have HBX := Lib.hid (below_thenB HB1.out HB1.out.size hb.out)
   clear hno hb HT
   go_wp2_with fail
   go_loopw [24] (fun iv wr => wx = wr ∧ ∃ j : Nat, j ≤ m ∧ iv = .int .i64 (j : Int) ∧ Hid (∀ y ∈ us.take j, y ≠ x)) (fun iv _ => m - (intOf iv).toNat)
   case atStart => exact ⟨rfl, 0, by omega, rfl, Lib.hid (fun y hy => by simp at hy)⟩
   case round =>
    obtain ⟨rfl, j, hj, rfl, hno⟩ := hrel
    by_cases hlt : j < m
    ·
     have hkl : j < us.length := by rw [← HM.out]; exact hlt
     obtain ⟨g, o, c', e, _, hat⟩ := HUX.out.at_ (by omega)
     cases e
     obtain ⟨p, hp⟩ : ∃ p, p = us[j] := ⟨_, rfl⟩
     have cx : wx.cell? ⟨g, o + j, none⟩ = some (.string (strB p)) := hat j _ (by rw [List.getElem?_map, List.getElem?_eq_getElem hkl, hp]; rfl)
     have HTK : Hid (us.take (j + 1) = us.take j ++ [p]) := Lib.hid (by rw [List.take_succ_eq_append_getElem hkl, hp])
     have HMEM : Hid (p ∈ us ++ tk.map (·.1)) := Lib.hid (List.mem_append_left _ (by rw [hp]; exact List.getElem_mem hkl))
     have e2 := strB_eq p x
     clear hat hp
     by_cases h : p = x
     ·
      rw [decide_eq_true h] at e2
      have HC : Hid (decide (x ∈ us ++ tk.map (·.1)) = true) := Lib.hid (by rw [decide_eq_true_eq, ← h]; exact HMEM.out)
      clear h
      go_wp2_with fail
      go_ret
      exact ⟨ret_bool HC.out.symm, HBX.out⟩
     ·
      rw [decide_eq_false h] at e2
      have HNO2 : Hid (∀ y ∈ us.take (j + 1), y ≠ x) := Lib.hid (by
       rw [HTK.out]
       intro y hy
       rcases List.mem_append.1 hy with h9 | h9
       ·
        exact hno.out y h9
       ·
        rw [List.mem_singleton.1 h9]; exact h)
      clear h
      go_wp2_with fail
      go_roundw
      case rel => exact ⟨trivial, j + 1, by omega, by go_num, HNO2⟩
      case measure => simp [intOf]; omega
    ·
     obtain rfl : j = m := by omega
     have HC : Hid (decide (x ∈ us ++ tk.map (·.1)) = false) := Lib.hid (by
      rw [decide_eq_false_iff_not]
      intro h9
      have h8 := hno.out
      rw [HM.out, List.take_length] at h8
      exact (List.mem_append.1 h9).elim (fun h => h8 x h rfl) (fun h => HNO.out x h rfl))
     go_wp2_with fail
     go_ret
     exact ⟨ret_bool HC.out.symm, HBX.out⟩

theorem sizeE_take {l : List En} (h : ∀ e ∈ l, e.tk.length ≤ 100000 ∧ e.us.length ≤ 100000) : sizeE l ≤ l.length * 200000 := by
 unfold sizeE
 induction l with
 | nil => exact Nat.zero_le _
 | cons a l ih =>
  have h1 := h a (List.mem_cons_self ..)
  have h2 := ih (fun e he => h e (List.mem_cons_of_mem _ he))
  simp only [List.map_cons, List.sum_cons, List.length_cons] at *
  omega
theorem sizeE_app (l m : List En) : sizeE (l ++ m) = sizeE l + sizeE m := by simp [sizeE]
end Go.Proofs.YtheijpjfpaghfaaGreatDoor
