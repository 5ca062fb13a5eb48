/- Several texts in one: Ho, Hp, Hq. -/
import Derived.Test.YtheijpjfpaghfaaGreatDoorC36
import Derived.Test.YtheijpjfpaghfaaGreatDoorC22
import Derived.Test.YtheijpjfpaghfaaGreatDoorC10
/- The known pieces of a purse, in order. -/
namespace Go.Proofs.YtheijpjfpaghfaaGreatDoor
open Go Go.RowKit Go.ChangeMaps Go.MapKept Gf Sha

theorem bslPid (s : List UInt8) (i : Int) (w : World) : (Instr.buildSlice 55 1 #[(0, .agg #[.string (strB s), .int .i64 i])]).run Tryz.prog w = .ok (.slice (some ⟨w.heap.size, 0, none⟩) 1 1) (w.alloc (.cells [.string (strB s), .int .i64 i].toArray 39)) := by kernel_rfl
theorem infoPidS : (Tryz.prog.info? 39).map (fun i => (i.zero, i.size, i.bytes)) = some (some (.agg pidZ.toArray), 2, 24) := by kernel_rfl
set_option maxRecDepth 100000 in
set_option maxHeartbeats 2000000 in
theorem pknown_any (w : World) (gp gm : Nat) (L : List Se) (h : PG w gp gm L) (hn : L.length ≤ 100000) :
  Calls Tryz.prog 45 #[.pointer (some ⟨gp, 0, none⟩)] w fun e w' => ∃ (v : Value) (l' : List Pid), e = .returned v ∧ l'.Perm (L.map fun x => idE x.e) ∧ l'.Pairwise (fun x y => ltI y x = false) ∧ RW w' 39 2 v l'.length (l'.flatMap pidC) ∧ (∀ q, v.ownBlock = some q → w.heap.size ≤ q) ∧ Below w.heap.size w w' := by
 have HP := Lib.hid h
 obtain ⟨es, clock, Z, hb, hst, hZ, hZ2, hkv⟩ := h.zip
 have HB := Lib.hid hb
 have HST := Lib.hid hst
 have HZ := Lib.hid hZ
 have HZ2 := Lib.hid hZ2
 have HKV := Lib.hid hkv
 have HN := Lib.hid hn
 have q0 := h.p.get (j := 0) rfl
 have HGM := Lib.hid h.m.lt
 clear h hb hst hZ hZ2 hkv hn
 go_enter Tryz.func45, Tryz.ntmps45
 go_wp2_with (first
  | ((with_reducible show OpW 9); refine wpList_range _ rfl 92 39 80 (.tmp 8) rfl stMap gm clock es rfl HB.out ?_; intro w1 a1 a2 a3; have HI1 := Lib.hid a1; have HB1 := Lib.hid a2; clear a1 a2 a3))
 go_simp
 obtain ⟨gr, hgr⟩ : ∃ gr, gr = w.heap.size := ⟨_, rfl⟩
 have HGR := Lib.hid hgr
 rw [← hgr] at HI1 ⊢
 clear hgr
 go_loopw [3] (fun nv wr => ∃ (seen : Array Nat) (vl : List (MapEntry × Se)), Hid (RW wr 39 2 nv vl.length ((vl.map fun q => idE q.2.e).flatMap pidC)) ∧ Hid (∀ q, nv.ownBlock = some q → gr < q) ∧ Hid (wr.heap[gr]? = some (.mapIter (some gm) clock seen clock)) ∧ Hid (Vis Z seen vl) ∧ Hid (Below w.heap.size w wr)) (fun _ wr => (leftOf es (wr.iterSeen gr)).size)
 case atStart => exact ⟨#[], [], Lib.hid (RW.nil _ _ _), Lib.hid (fun q e => by cases e), HI1, Lib.hid (Vis.nil Z), HB1⟩
 case round =>
  obtain ⟨seen, vl, hrw, hown, hi, hv, hbr⟩ := hrel
  obtain ⟨wy, hwy⟩ : ∃ x, x = wr := ⟨_, rfl⟩
  rw [← hwy] at hrw hi hbr ⊢
  clear hwy
  obtain ⟨Av, cv, ev, _⟩ := hrw.out.form
  subst ev
  rcases next_vis (P := Tryz.prog) HZ.out HST.out hi.out ((hbr.out.block gm HGM.out).trans HB.out) (by have := HGR.out; have := HGM.out; omega) hv.out hbr.out (Nat.le_refl _) (by have := HGR.out; omega) with ⟨hperm, hrun⟩ | ⟨e, x, w2, hx, hrun, hent, hi2, hb2, hk2, hs2, hv2, hsh⟩
  ·
   obtain ⟨l0, hl0⟩ : ∃ l0, l0 = vl.map fun q => idE q.2.e := ⟨_, rfl⟩
   have HPM : Hid (l0.Perm (L.map fun x => idE x.e)) := Lib.hid (by
    have h9 := hperm.map fun q => idE q.2.e
    rw [hl0]
    refine h9.trans ?_
    rw [← HZ2.out, List.map_map]
    exact List.Perm.refl _)
   have HLL : Hid (vl.length = l0.length) := Lib.hid (by rw [hl0, List.length_map])
   rw [← hl0] at hrw
   have HL1 : Hid (l0.length < 1000000) := Lib.hid (by have h9 := HPM.out.length_eq; rw [List.length_map] at h9; have := HN.out; omega)
   have HRW : Hid (RW wy 39 2 (.slice Av vl.length cv) l0.length (l0.flatMap pidC)) := Lib.hid (by have h9 := hrw.out; rw [HLL.out] at h9 ⊢; exact h9)
   clear hrw hl0
   go_wp2_with (first
    | ((with_reducible show OpW 10); refine wpList_run _ rfl _ _ (exec_next (x := .tmp 9) rfl hrun) ?_)
    | (go_at_call 77; refine (sort_pid _ l0 wy HRW.out HL1.out).mono ?_; rintro e w2 ⟨rfl, l', r1, r2, r3, r4⟩; have HS1 := Lib.hid r1; have HS2 := Lib.hid r2; have HS3 := Lib.hid r3; have HS4 := Lib.hid r4; clear r1 r2 r3 r4))
   go_ret
   refine ⟨_, l', rfl, HS1.out.trans HPM.out, HS2.out, ?_, fun q e => by have := hown.out q e; have := HGR.out; omega, low_own hbr.out HS4.out (fun i hi e => by have := hown.out i e; have := HGR.out; omega)⟩
   rw [HS1.out.length_eq]
   exact HS3.out
  ·
   have hxL : x ∈ L := by rw [← HZ2.out]; exact List.mem_map.2 ⟨_, hx, rfl⟩
   have hkv := HKV.out _ hx
   simp only [seKV, Prod.mk.injEq] at hkv
   rw [hkv.1, hkv.2] at hrun hent
   have HLE : Hid (vl.length ≤ 100000) := Lib.hid (by
    have h4 : vl.length ≤ Z.length := nodup_len hv.out.nd (fun q hq => hv.out.sub q hq)
    have h5 : Z.length = L.length := by rw [← HZ2.out, List.length_map]
    have := HN.out
    omega)
   have HV2 := Lib.hid hv2
   have HI2 := Lib.hid hi2
   have HB2 := Lib.hid hb2
   have HK2 := Lib.hid hk2
   have HSH := Lib.hid hsh
   have HSZ2 : Hid (w2.heap.size = wy.heap.size) := Lib.hid hs2
   have hgl : Hid (gr < w2.heap.size) := Lib.hid (Array.getElem?_eq_some_iff.1 hi2).1
   obtain ⟨⟨s, z, tk, us⟩, tv, uv⟩ := x
   have HRW2 := Lib.hid (hrw.out.kp hk2 (fun q e e9 => by have := hown.out q e; omega))
   clear hkv hx hxL hv2 hi2 hb2 hsh hs2 hk2 hrw
   go_wp2_with (first
    | ((with_reducible show OpW 10); refine wpList_run _ rfl _ w2 (exec_next (x := .tmp 9) rfl hrun) ?_)
    | ((with_reducible show OpW 12); refine wpList_run _ rfl _ w2 (exec_entry (x := .tmp 9) rfl hent) ?_)
    | ((with_reducible show OpW 4); refine wpList_alloc _ rfl 39 rfl pidZ pidZero ?_; intro w3 a1 a2 a3; have HS3 := Lib.hid a1; have HX3 := Lib.hid a2; clear a1 a2 a3)
    | ((with_reducible show OpN); refine wpList_storev _ rfl 39 (.tmp 4) (.tmp 13) rfl 2 (by kernel_rfl) w2.heap.size 0 _ pidZ [.string (strB s), .int .i64 z] rfl rfl HS3.out rfl (one_val _ rfl) (by decide) ?_; intro w4 a1 a2 a3; have HS4 : Hid (BL w4 w2.heap.size 39 [.string (strB s), .int .i64 z]) := Lib.hid a1; have HX4 : Hid (Below w2.heap.size w2 w4) := Lib.hid (low_own HX3.out a2 (fun i hi e => by omega)); clear a1 a2 a3)
    | ((with_reducible show OpW 15); refine wpList_loadv _ rfl 39 (.tmp 4) rfl 2 (by kernel_rfl) w2.heap.size 0 [.string (strB s), .int .i64 z] rfl (BL.all HS4.out) rfl ?_)
    | ((with_reducible show OpW 16); refine wpList_bslice _ rfl 55 39 1 _ rfl #[(0, .agg #[.string (strB s), .int .i64 z])] (by rw [List.map_toArray]; rfl) [.string (strB s), .int .i64 z] (by exact bslPid s z _) ?_; intro w5 a1 a2 a3; have HN5 := Lib.hid a1; have HX5 := Lib.hid (below_thenB HX4.out HX4.out.size a2); have HRW5 := Lib.hid (HRW2.out.kept HX5.out); clear a1 a2 a3)
    | ((with_reducible show OpW 17); obtain ⟨iS, i1, i2, i3, i4⟩ := info_some infoPidS; refine wpList_appRW _ rfl (.tmp 14) (.tmp 16) 55 39 2 iS _ rfl Tryz.underlying55 i1 i2 i3 rfl _ vl.length _ rfl HRW5.out w4.heap.size _ rfl HN5.out rfl (one_val _ rfl) (by rw [i4]; have := HLE.out; omega) (by have := HLE.out; omega) ?_; intro v6 w6 ap; have HAP := Lib.hid ap; clear ap i1 i2 i3 i4))
   go_roundw
   case rel =>
    refine ⟨_, vl ++ [(e, ⟨⟨s, z, tk, us⟩, tv, uv⟩)], Lib.hid ?_, Lib.hid (fun q e => (HAP.out.own q e).elim (hown.out q) (fun h => by have := hgl.out; have := HX5.out.size; omega)), Lib.hid ?_, HV2, Lib.hid (low_own (below_thenB HB2.out HB2.out.size HX5.out) HAP.out.kp (fun i hi e => by have := hown.out i e; have := HGR.out; omega))⟩
    ·
     have h9 := HAP.out.row
     rw [List.length_append, List.map_append, List.flatMap_append]
     exact h9
    ·
     exact (HAP.out.kp.block gr (by have := hgl.out; have := HX5.out.size; omega) (fun e => by have := hown.out gr e; omega)).trans ((HX5.out.block gr hgl.out).trans HI2.out)
   case measure =>
    have e5 : w6.iterSeen gr = w2.iterSeen gr := by unfold World.iterSeen; rw [HAP.out.kp.block gr (by have := hgl.out; have := HX5.out.size; omega) (fun e => by have := hown.out gr e; omega), HX5.out.block gr hgl.out]
    rw [e5]; exact HSH.out
end Go.Proofs.YtheijpjfpaghfaaGreatDoor
/- wire.Writer, the block of its bytes named. -/
namespace Go.Proofs.YtheijpjfpaghfaaGreatDoor
open Go.RowKit Gf Sha

theorem or128q (b : UInt8) : bits .or .u8 (bv b) 128 = bv (b ||| 128) := Gf.or_bits b 128
attribute [local go_sem] or128q
section
variable (w : World) {ops : Array Oper} {rest : List Oper} {o : Oper} {a : Act} {Q : Exit → Act → World → Prop}
/-- append(b, s...), s a string. -/
theorem wpList_appRS (hg : o.guard = none) (sl x : Operand) (hop : o.op = .call { callee := .builtin .append, args := #[sl, x], argTypes := #[22, 9] })
  (v : Value) (n : Nat) (l : List Value) (hv : a.eval sl = v) (h : RW w 5 1 v n l) (s : List UInt8) (hx : a.eval x = .string (strB s)) (hs : 0 < s.length) (hb : n + s.length ≤ 140737488355328)
  (hK : ∀ v' w', AppR w 5 1 v n s.length l (s.map B) v' w' → wpList Tryz.prog ops Q rest (a.put o.dst v') w') : wpList Tryz.prog ops Q (o :: rest) a w :=
 wpList_plain hg fun K hK' => by
  obtain ⟨i, hi, hz, hsz, hby⟩ := info_some infoU8
  have hsrc : Src Tryz.prog 1 9 (.string (strB s)) s.length (s.map B) w := by
   have h9 := Src.ofString (P := Tryz.prog) w Tryz.underlying9 (strB s)
   rw [strB_size] at h9
   exact h9
  obtain ⟨v', w', hr, h2⟩ := run_appRW (rt := o.type) (t := 22) Tryz.underlying22 hi hz hsz rfl h hsrc hs (by rw [hby]; omega) hb
  unfold Oper.wp execOp
  simp only [hop, resolve, invoke, builtin, Sem.run_bind, Sem.run_pure, Result.andThen_ok, List.map_toArray, List.map_cons, List.map_nil, hv, hx, hr]
  exact hK' _ _ (hK v' w' h2)
end
/-- The new value lies where the old one lay, or in new memory. -/
def OwnN (w : World) (v v' : Value) : Prop := ∀ b, v'.ownBlock = some b → v.ownBlock = some b ∨ w.heap.size ≤ b
set_option maxRecDepth 100000 in
set_option maxHeartbeats 1000000 in
theorem extend2_any (m n : Nat) (v : Value) (l : List UInt8) (w : World) (ho : RW w 5 1 v m (l.map B)) (hm : m ≤ 10000000) (hn : n < 9223372036854775808) :
  Calls Tryz.prog 86 #[v, .int .u64 (n : Int)] w fun e w' => ∃ v' m', e = .returned v' ∧ m' ≤ m + 11 ∧ RW w' 5 1 v' m' ((l ++ uv n).map B) ∧ Kp (fun b => v.ownBlock = some b) w w' ∧ OwnN w v v' := by
 have HO := Lib.hid ho
 have HN := Lib.hid hn
 have HMB := Lib.hid hm
 clear ho hn hm
 go_enter Tryz.func86, Tryz.ntmps86
 go_wp2_with fail
 go_loopw [0, 1] (fun x y wr => ∃ (v1 : Value) (m1 n1 f : Nat) (l1 : List UInt8), m1 ≤ m + 10 ∧ f ≤ 10 ∧ x = v1 ∧ y = .int .u64 (n1 : Int) ∧ Hid (n1 < 9223372036854775808) ∧ Hid (m1 + f = m + 10) ∧ Hid (n1 < 2 ^ (7 * (f + 1))) ∧ Hid (l1 ++ uvf f n1 = l ++ uv n) ∧ Hid (RW wr 5 1 v1 m1 (l1.map B)) ∧ Hid (Kp (fun b => v.ownBlock = some b) w wr) ∧ Hid (OwnN w v v1)) (fun _ y _ => (intOf y).toNat)
 case atStart => exact ⟨_, m, n, 10, l, by omega, by omega, rfl, rfl, HN, Lib.hid rfl, Lib.hid (by have := HN.out; exact Nat.lt_of_lt_of_le this (by decide)), Lib.hid rfl, HO, Lib.hid (Kp.refl _ _), Lib.hid (fun b e => .inl e)⟩
 case round =>
  obtain ⟨v1, m1, n1, f, l1, hm1, hf, rfl, rfl, hn1, hmf, hnf, hl, ho1, hk1, hown⟩ := hrel
  obtain ⟨wx, hwx⟩ : ∃ x, x = wr := ⟨_, rfl⟩
  rw [← hwx] at ho1 hk1 ⊢
  clear hwx
  have HMK : Hid (m1 < 100000000) := Lib.hid (by have := HMB.out; omega)
  by_cases hlt : n1 < 128
  ·
   have HBK : Hid (BL (wx.alloc (.cells #[B (UInt8.ofNat n1)] 5)) wx.heap.size 5 [B (UInt8.ofNat n1)]) := Lib.hid (BL.new wx 5 [B (UInt8.ofNat n1)])
   have HAL : Hid (Below wx.heap.size wx (wx.alloc (.cells #[B (UInt8.ofNat n1)] 5))) := Lib.hid ((Below.refl _ _).alloc (Nat.le_refl _) _)
   have HOO := Lib.hid (ho1.out.kept HAL.out)
   have HE : Hid (l1 ++ [UInt8.ofNat n1] = l ++ uv n) := Lib.hid (by rw [← hl.out, uvf_small f n1 hlt])
   go_wp2_with (first
    | ((with_reducible show OpW 17); refine wpList_u8N _ rfl (.tmp 16) 98 5 rfl _ .u64 Tryz.underlying98 Tryz.underlying5 n1 _ rfl rfl ?_)
    | ((with_reducible show OpW 19); obtain ⟨iS, i1, i2, i3, i4⟩ := info_some infoU8; refine wpList_appRW _ rfl (.tmp 15) (.tmp 18) 22 5 1 iS _ rfl Tryz.underlying22 i1 i2 i3 rfl _ m1 _ rfl HOO.out wx.heap.size [B (UInt8.ofNat n1)] rfl HBK.out rfl (one_val _ rfl) (by rw [i4]; have := HMK.out; omega) (by have := HMK.out; omega) ?_; intro v6 w6 hp; clear i1 i2 i3 i4))
   go_ret
   refine ⟨_, m1 + 1, rfl, by omega, ?_, hk1.out.after ((Kp.of_below HAL.out).trans hp.kp) (fun i hi e => (hown.out i e).elim id (fun h => by omega)), fun b e => (hp.own b e).elim (hown.out b) (fun h => .inr (by have := hk1.out.size; have := HAL.out.size; omega))⟩
   have h9 := hp.row
   rw [← HE.out, List.map_append]
   exact h9
  ·
   obtain ⟨f, rfl⟩ : ∃ f', f = f' + 1 := ⟨f - 1, by
    rcases Nat.eq_zero_or_pos f with h0 | h0
    ·
     subst h0; have := hnf.out; omega
    ·
     omega⟩
   have hsr : n1 >>> 7 = n1 / 128 := by rw [Nat.shiftRight_eq_div_pow]
   have hn2 : Hid (n1 >>> 7 < 9223372036854775808) := Lib.hid (by have := hn1.out; omega)
   have hlt2 : n1 >>> 7 < n1 := by omega
   have HSR := Lib.hid hsr
   clear hsr
   have HBK : Hid (BL (wx.alloc (.cells #[B (UInt8.ofNat n1 ||| 128)] 5)) wx.heap.size 5 [B (UInt8.ofNat n1 ||| 128)]) := Lib.hid (BL.new wx 5 [B (UInt8.ofNat n1 ||| 128)])
   have HAL : Hid (Below wx.heap.size wx (wx.alloc (.cells #[B (UInt8.ofNat n1 ||| 128)] 5))) := Lib.hid ((Below.refl _ _).alloc (Nat.le_refl _) _)
   have HOO := Lib.hid (ho1.out.kept HAL.out)
   have HE : Hid ((l1 ++ [UInt8.ofNat n1 ||| 128]) ++ uvf f (n1 >>> 7) = l ++ uv n) := Lib.hid (by rw [← hl.out, uvf_more f n1 hlt, List.append_assoc]; rfl)
   have HF : Hid (n1 >>> 7 < 2 ^ (7 * (f + 1))) := Lib.hid (by
    rw [HSR.out]
    have h1 := hnf.out
    rw [show 7 * (f + 1 + 1) = 7 * (f + 1) + 7 by omega, Nat.pow_add] at h1
    exact Nat.div_lt_of_lt_mul (by rw [Nat.mul_comm]; exact h1))
   go_wp2_with (first
    | ((with_reducible show OpW 9); refine wpList_u8N _ rfl (.tmp 8) 98 5 rfl _ .u64 Tryz.underlying98 Tryz.underlying5 n1 _ rfl rfl ?_)
    | ((with_reducible show OpW 12); obtain ⟨iS, i1, i2, i3, i4⟩ := info_some infoU8; refine wpList_appRW _ rfl (.tmp 7) (.tmp 11) 22 5 1 iS _ rfl Tryz.underlying22 i1 i2 i3 rfl _ m1 _ rfl HOO.out wx.heap.size [B (UInt8.ofNat n1 ||| 128)] rfl HBK.out rfl (one_val _ rfl) (by rw [i4]; have := HMK.out; omega) (by have := HMK.out; omega) ?_; intro v6 w6 hp; have HP := Lib.hid hp; clear hp i1 i2 i3 i4)
    | ((with_reducible show OpW 14); refine wpList_shrN _ rfl (.tmp 13) _ _ _ rfl .u64 n1 7 _ 7 rfl rfl rfl rfl (by decide) ?_))
   go_roundw
   case rel =>
    refine ⟨v6, m1 + 1, n1 >>> 7, f, l1 ++ [UInt8.ofNat n1 ||| 128], by have := hmf.out; omega, by omega, rfl, rfl, hn2, Lib.hid (by have := hmf.out; omega), HF, HE, Lib.hid ?_, Lib.hid (hk1.out.after ((Kp.of_below HAL.out).trans HP.out.kp) (fun i hi e => (hown.out i e).elim id (fun h => by omega))), Lib.hid (fun b e => (HP.out.own b e).elim (hown.out b) (fun h => .inr (Nat.le_trans hk1.out.size (Nat.le_trans HAL.out.size h))))⟩
    have h9 := HP.out.row
    rw [List.map_append]
    exact h9
   case measure => simp only [intOf, Int.toNat_natCast]; exact hlt2
/-- A writer without an error, its bytes in v. -/
structure WrK (w : World) (g : Nat) (v : Value) (l : List UInt8) : Prop where
 b : BL w g 144 [v, .int .i64 0]
 r : RW w 5 1 v l.length (l.map B)
 n : v.ownBlock ≠ some g
theorem WrK.kept {w w' : World} {g : Nat} {v : Value} {l : List UInt8} (h : WrK w g v l) (hb : Below w.heap.size w w') : WrK w' g v l := ⟨h.b.kept hb, h.r.kept hb, h.n⟩
/-- What a call of the writer leaves. -/
def WrN (w : World) (g : Nat) (v : Value) (l' : List UInt8) (e : Ending) (w' : World) : Prop := e = .returned (.tuple #[]) ∧ ∃ v', WrK w' g v' l' ∧ Kp (fun q => q = g ∨ v.ownBlock = some q) w w' ∧ OwnN w v v'
theorem RW.len_eq {w : World} {te : TypeId} {v : Value} {n m : Nat} {l : List Value} (h : RW w te 1 v n l) (hl : l.length = m) : n = m := by have := h.1; omega
set_option maxHeartbeats 1000000 in
theorem wuint2 (w : World) (g n : Nat) (v : Value) (l : List UInt8) (h : WrK w g v l) (hl : l.length ≤ 1000000) (hn : n < 9223372036854775808) :
  Calls Tryz.prog 79 #[.pointer (some ⟨g, 0, none⟩), .int .u64 (n : Int)] w (WrN w g v (l ++ uv n)) := by
 have HV := Lib.hid h.b
 have HR := Lib.hid h.r
 have HNO := Lib.hid h.n
 have HN := Lib.hid hn
 have HL := Lib.hid hl
 have q0 := h.b.get (j := 0) rfl
 have q1 := h.b.get (j := 1) rfl
 clear h hn hl
 go_enter Tryz.func79, Tryz.ntmps79
 go_wp2_with (first
  | (go_at_call 86; refine (extend2_any l.length n v l w HR.out (by have := HL.out; omega) HN.out).mono ?_; rintro e w1 ⟨v1, m1, rfl, r0, r1, r2, r3⟩; have HV1 := Lib.hid (r2.bl HV.out HNO.out); have HR1 := Lib.hid r1; have HK1 := Lib.hid r2; have HO1 := Lib.hid r3; have HM1 : Hid (m1 = (l ++ uv n).length) := Lib.hid (r1.len_eq (by rw [List.length_map])); clear r0 r1 r2 r3)
  | ((with_reducible show OpN); refine wpList_store1 _ rfl 22 (.tmp 17) (.tmp 15) rfl (sz1 _ (by kernel_rfl) _) g 0 _ _ v1 rfl rfl HV1.out HR1.out.cell1.1 HR1.out.cell1.2 (by simp) ?_; intro w2 y1 y2 y3; have HV2 : Hid (BL w2 g 144 [v1, .int .i64 0]) := Lib.hid y1; have HK2 := Lib.hid y2; clear y1 y2 y3))
 go_end0
 have hg1 : v1.ownBlock ≠ some g := fun e => (HO1.out g e).elim HNO.out (fun h => by have := HV.out.lt; omega)
 have hr := HR1.out
 rw [HM1.out] at hr
 exact ⟨rfl, v1, ⟨HV2.out, hr.kp HK2.out (fun b e e9 => hg1 (e9 ▸ e)), hg1⟩, (HK1.out.mono (fun i hi e => .inr e)).trans (HK2.out.mono (fun i hi e => .inl e)), HO1.out⟩
set_option maxHeartbeats 1000000 in
theorem wcount2 (w : World) (g n : Nat) (v : Value) (l : List UInt8) (h : WrK w g v l) (hl : l.length ≤ 1000000) (hn : n < 9223372036854775808) :
  Calls Tryz.prog 46 #[.pointer (some ⟨g, 0, none⟩), .int .i64 (n : Int)] w (WrN w g v (l ++ uv n)) := by
 have H := Lib.hid h
 have HN := Lib.hid hn
 have HL := Lib.hid hl
 have q1 := h.b.get (j := 1) rfl
 have f1 : decide ((n : Int) < 0) = false := decide_eq_false (by omega)
 have f2 : IntKind.u64.wrap (n : Int) = (n : Int) := by show (n : Int) % 18446744073709551616 = _; omega
 clear h hn hl
 go_enter Tryz.func46, Tryz.ntmps46
 go_wp2_with (first
  | (go_at_call 79; refine (wuint2 w g n v l H.out HL.out HN.out).mono ?_; rintro e w1 ⟨rfl, r1⟩; have HW1 := Lib.hid r1; clear r1))
 go_end0
 exact ⟨rfl, HW1.out⟩
theorem zigzag_any (n : Nat) (hn : n < 4611686018427387904) (w : World) : Calls Tryz.prog 80 #[.int .i64 (n : Int)] w fun e w' => e = .returned (.int .u64 ((2 * n : Nat) : Int)) ∧ w' = w := by
 have f1 : decide ((n : Int) < 0) = false := decide_eq_false (by omega)
 have f2 : IntKind.u64.wrap (n : Int) = (n : Int) := by show (n : Int) % 18446744073709551616 = _; omega
 have f3 : IntKind.u64.wrap ((n : Int) * 2) = ((2 * n : Nat) : Int) := by show ((n : Int) * 2) % 18446744073709551616 = _; omega
 go_enter Tryz.func80, Tryz.ntmps80
 go_wp2_with fail
 go_ret
 exact ⟨rfl, rfl⟩
set_option maxHeartbeats 1000000 in
theorem wint2 (w : World) (g n : Nat) (v : Value) (l : List UInt8) (h : WrK w g v l) (hl : l.length ≤ 1000000) (hn : n < 4611686018427387904) :
  Calls Tryz.prog 48 #[.pointer (some ⟨g, 0, none⟩), .int .i64 (n : Int)] w (WrN w g v (l ++ uv (2 * n))) := by
 have H := Lib.hid h
 have HN := Lib.hid hn
 have HL := Lib.hid hl
 clear h hn hl
 go_enter Tryz.func48, Tryz.ntmps48
 go_wp2_with (first
  | (go_at_call 80; refine (zigzag_any n HN.out w).mono ?_; rintro e w1 ⟨rfl, hw⟩; rw [hw]; clear hw)
  | (go_at_call 79; refine (wuint2 w g (2 * n) v l H.out HL.out (by have := HN.out; omega)).mono ?_; rintro e w1 ⟨rfl, r1⟩; have HW1 := Lib.hid r1; clear r1))
 go_end0
 exact ⟨rfl, HW1.out⟩
set_option maxHeartbeats 1000000 in
theorem wsum2 (w : World) (g : Nat) (v : Value) (l s : List UInt8) (h : WrK w g v l) (hl : l.length ≤ 1000000) (hs : s.length = 32) :
  Calls Tryz.prog 47 #[.pointer (some ⟨g, 0, none⟩), .string (strB s)] w (WrN w g v (l ++ s)) := by
 have HV := Lib.hid h.b
 have HR := Lib.hid h.r
 have HNO := Lib.hid h.n
 have HS := Lib.hid hs
 have HL := Lib.hid hl
 have q0 := h.b.get (j := 0) rfl
 have q1 := h.b.get (j := 1) rfl
 have e1 : (strB s).size = 32 := by rw [strB_size]; exact hs
 clear h hs hl
 go_enter Tryz.func47, Tryz.ntmps47
 go_wp2_with (first
  | ((with_reducible show OpW 21); refine wpList_appRS _ rfl (.tmp 19) (.tmp 20) rfl v l.length _ rfl HR.out s rfl (by have := HS.out; omega) (by have := HS.out; have := HL.out; omega) ?_; intro v1 w1 ap; have HAP := Lib.hid ap; have HV1 := Lib.hid (ap.kp.bl HV.out HNO.out); have HC1 := Lib.hid ap.row.cell1; clear ap)
  | ((with_reducible show OpN); refine wpList_store1 _ rfl 22 (.tmp 23) (.tmp 21) rfl (sz1 _ (by kernel_rfl) _) g 0 _ _ v1 rfl rfl HV1.out HC1.out.1 HC1.out.2 (by simp) ?_; intro w2 y1 y2 y3; have HV2 : Hid (BL w2 g 144 [v1, .int .i64 0]) := Lib.hid y1; have HK2 := Lib.hid y2; clear y1 y2 y3))
 go_end0
 have hg1 : v1.ownBlock ≠ some g := fun e => (HAP.out.own g e).elim HNO.out (fun h => by have := HV.out.lt; omega)
 have hr := HAP.out.row
 rw [← List.map_append, ← List.length_append] at hr
 exact ⟨rfl, v1, ⟨HV2.out, hr.kp HK2.out (fun b e e9 => hg1 (e9 ▸ e)), hg1⟩, (HAP.out.kp.mono (fun i hi e => .inr e)).trans (HK2.out.mono (fun i hi e => .inl e)), HAP.out.own⟩
set_option maxHeartbeats 1000000 in
theorem wdone2 (w : World) (g : Nat) (v : Value) (l : List UInt8) (h : WrK w g v l) (hl : l.length ≤ 1048576) :
  Calls Tryz.prog 49 #[.pointer (some ⟨g, 0, none⟩)] w fun e w' => ∃ A n c, e = .returned (.tuple #[.slice A n c, .int .i64 0]) ∧ BS w' A n c l ∧ Below w.heap.size w w' := by
 obtain ⟨A, c, rfl, _⟩ := h.r.form
 have hbs := BS.of_rw h.r (by unfold lim; omega)
 obtain ⟨m, hm⟩ : ∃ m, m = l.length := ⟨_, rfl⟩
 have HM := Lib.hid hm
 have hb := h.b
 rw [← hm] at hbs hb hl
 have HBS := Lib.hid hbs
 have q0 := hb.get (j := 0) rfl
 have q1 := hb.get (j := 1) rfl
 have f1 : decide ((1048576 : Int) < (m : Int)) = false := decide_eq_false (by omega)
 clear h hb hbs hm
 go_enter Tryz.func49, Tryz.ntmps49
 go_wp2_with (first
  | ((with_reducible show OpW 19); refine wpList_bslice _ rfl 22 5 0 _ rfl #[] (by rw [List.map_toArray]; rfl) [] (bsl0 _) ?_; intro w1 y1 y2 y3; have HG1 := Lib.hid y1; have HB1 := Lib.hid y2; have q0 := cell_kept y2 q0; clear y1 y2 y3)
  | ((with_reducible show OpW 24); refine wpList_appB _ rfl (.tmp 19) (.tmp 23) rfl w.heap.size _ 0 [] rfl (BL.own HG1.out (Nat.le_refl _) rfl (by decide)) A m c l rfl (HBS.out.kept HB1.out) (by omega) HB1.out.size ?_; intro v2 w2 hp; have HP := Lib.hid hp; clear hp))
 have hown := HP.out.own
 rw [Nat.zero_add, List.nil_append] at hown
 obtain ⟨A2, c2, rfl, hb2⟩ := BS.of_own hown (by unfold lim; omega)
 have HB2 := Lib.hid hb2
 go_ret2
 exact ⟨A2, m, c2, rfl, HB2.out, HP.out.below (BL.own HG1.out (Nat.le_refl _) rfl (by decide)) HB1.out (Nat.le_refl _) HB1.out.size⟩
theorem WrK.start {w : World} {g : Nat} (h : BL w g 144 [.slice none 0 0, .int .i64 0]) : WrK w g (.slice none 0 0) [] := ⟨h, RW.nil _ _ _, fun e => by cases e⟩
set_option maxHeartbeats 400000 in
theorem newWriter2 (w : World) : Calls Tryz.prog 44 #[] w fun e w' => e = .returned (.pointer (some ⟨w.heap.size, 0, none⟩)) ∧ WrK w' w.heap.size (.slice none 0 0) [] ∧ Below w.heap.size w w' := by
 go_enter Tryz.func44, Tryz.ntmps44
 go_wp2_with (first
  | ((with_reducible show OpW 1); refine wpList_build _ rfl 144 #[] rfl #[] (by rfl) (.agg [.slice none 0 0, .int .i64 0].toArray) (bldWr _) ?_)
  | ((with_reducible show OpW 2); refine wpList_box _ rfl 144 (.tmp 1) rfl [.slice none 0 0, .int .i64 0] rfl ?_; intro w1 y1 y2 y3; have HG1 := Lib.hid y1; have HB1 := Lib.hid y2; clear y1 y2 y3))
 go_ret
 exact ⟨rfl, WrK.start HG1.out, HB1.out⟩
end Go.Proofs.YtheijpjfpaghfaaGreatDoor
/- Purse.Encode. -/
namespace Go.Proofs.YtheijpjfpaghfaaGreatDoor
open Go Go.RowKit Go.ChangeMaps Go.MapKept Gf Sha

def encT (tk : List Sc) : List UInt8 := tk.flatMap fun x => x.1 ++ x.2
/-- The encoding of an entry, of entries. -/
def encR (e : En) : List UInt8 := e.s ++ (uv (2 * e.i.toNat) ++ (uv e.tk.length ++ (encT e.tk ++ (uv e.us.length ++ e.us.flatten))))
def encE (l : List En) : List UInt8 := uv l.length ++ l.flatMap encR
/-- What a purse's entry is like. -/
structure GoodE (e : En) : Prop where
 s : e.s.length = 32
 i0 : 0 ≤ e.i
 i1 : e.i < 16
 t : ∀ x ∈ e.tk, x.1.length = 32 ∧ x.2.length = 32
 u : ∀ x ∈ e.us, x.length = 32
/-- A writer that leaves the blocks of F alone. -/
def WrF (w : World) (g : Nat) (F : Nat → Prop) (l : List UInt8) : Prop := ∃ v, WrK w g v l ∧ ¬ F g ∧ ∀ q, v.ownBlock = some q → ¬ F q
section
variable {w w' : World} {g : Nat} {F F' : Nat → Prop} {l : List UInt8}
theorem WrF.mono (h : WrF w g F l) (hF : ∀ q, F' q → F q) : WrF w g F' l := let ⟨v, h1, h2, h3⟩ := h; ⟨v, h1, fun h => h2 (hF _ h), fun q hq h => h3 q hq (hF _ h)⟩
theorem WrF.lt (h : WrF w g F l) : g < w.heap.size := let ⟨_, h1, _⟩ := h; h1.b.lt
/-- New blocks are left alone too. -/
theorem WrF.add (h : WrF w g F l) (hb : Below w.heap.size w w') : WrF w' g (fun q => F q ∨ (w.heap.size ≤ q ∧ q < w'.heap.size)) l := by
 have hg := h.lt
 obtain ⟨v, h1, h2, h3⟩ := h
 exact ⟨v, h1.kept hb, fun h => h.elim h2 (fun h => by omega), fun q hq h => h.elim (h3 q hq) (fun h => by have := h1.r.lt hq; omega)⟩
theorem WrN.toF {v : Value} {l' : List UInt8} {e : Ending} (h2 : ¬ F g) (h3 : ∀ q, v.ownBlock = some q → ¬ F q) (hF : ∀ q, F q → q < w.heap.size) (h : WrN w g v l' e w') : e = .returned (.tuple #[]) ∧ WrF w' g F l' ∧ Kp (fun q => ¬ F q) w w' := by
 obtain ⟨rfl, v', k1, k2, k3⟩ := h
 exact ⟨rfl, ⟨v', k1, h2, fun q hq => (k3 q hq).elim (h3 q) (fun h hf => by have := hF q hf; omega)⟩, k2.mono (fun i hi e => e.elim (fun e => e ▸ h2) (h3 i))⟩
end
theorem wcount3 (F : Nat → Prop) (w : World) (g n : Nat) (l : List UInt8) (h : WrF w g F l) (hF : ∀ q, F q → q < w.heap.size) (hl : l.length ≤ 1000000) (hn : n < 9223372036854775808) :
  Calls Tryz.prog 46 #[.pointer (some ⟨g, 0, none⟩), .int .i64 (n : Int)] w fun e w' => e = .returned (.tuple #[]) ∧ WrF w' g F (l ++ uv n) ∧ Kp (fun q => ¬ F q) w w' := by
 obtain ⟨v, h1, h2, h3⟩ := h
 exact (wcount2 w g n v l h1 hl hn).mono fun e w' h => h.toF h2 h3 hF
theorem wint3 (F : Nat → Prop) (w : World) (g n : Nat) (l : List UInt8) (h : WrF w g F l) (hF : ∀ q, F q → q < w.heap.size) (hl : l.length ≤ 1000000) (hn : n < 4611686018427387904) :
  Calls Tryz.prog 48 #[.pointer (some ⟨g, 0, none⟩), .int .i64 (n : Int)] w fun e w' => e = .returned (.tuple #[]) ∧ WrF w' g F (l ++ uv (2 * n)) ∧ Kp (fun q => ¬ F q) w w' := by
 obtain ⟨v, h1, h2, h3⟩ := h
 exact (wint2 w g n v l h1 hl hn).mono fun e w' h => h.toF h2 h3 hF
theorem wsum3 (F : Nat → Prop) (w : World) (g : Nat) (l s : List UInt8) (h : WrF w g F l) (hF : ∀ q, F q → q < w.heap.size) (hl : l.length ≤ 1000000) (hs : s.length = 32) :
  Calls Tryz.prog 47 #[.pointer (some ⟨g, 0, none⟩), .string (strB s)] w fun e w' => e = .returned (.tuple #[]) ∧ WrF w' g F (l ++ s) ∧ Kp (fun q => ¬ F q) w w' := by
 obtain ⟨v, h1, h2, h3⟩ := h
 exact (wsum2 w g v l s h1 hl hs).mono fun e w' h => h.toF h2 h3 hF
theorem PG.found {w : World} {gp gm : Nat} {L : List Se} (h : PG w gp gm L) {x : Se} (hx : x ∈ L) {z v : Value} {f : Bool} (hf : Found (L.map seKV) (pidV x.e.s x.e.i) z v f) : v = stV x.tv x.uv := by
 cases hf with
 | no h9 => exact absurd rfl (h9 (seKV x) (List.mem_map.2 ⟨x, hx, rfl⟩))
 | yes i v h9 =>
  rw [List.getElem?_map] at h9
  cases hy : L[i]? with
  | none => rw [hy] at h9; cases h9
  | some y =>
   rw [hy] at h9
   simp only [Option.map_some, Option.some.injEq, seKV, Prod.mk.injEq] at h9
   have hid := pidV_inj h9.1
   obtain ⟨hi, hyi⟩ := List.getElem?_eq_some_iff.1 hy
   obtain ⟨j, hj, hxj⟩ := List.getElem_of_mem hx
   have hnd := List.pairwise_iff_getElem.1 (show (L.map fun x => ((x.e.s, x.e.i) : Pid)).Pairwise (· ≠ ·) from h.nodup)
   have hij : i = j := by
    rcases Nat.lt_trichotomy i j with h1 | h1 | h1
    ·
     exact absurd (by rw [List.getElem_map, List.getElem_map, hyi, hxj, hid.1, hid.2]) (hnd i j (by simpa using hi) (by simpa using hj) h1)
    ·
     exact h1
    ·
     exact absurd (by rw [List.getElem_map, List.getElem_map, hyi, hxj, hid.1, hid.2]) (hnd j i (by simpa using hj) (by simpa using hi) h1)
   subst hij
   rw [hyi] at hxj
   rw [← h9.2, hxj]
theorem perm_lift {α β : Type} {f : α → β} : ∀ {L : List α} {l0 : List β}, l0.Perm (L.map f) → ∃ l' : List α, l'.Perm L ∧ l'.map f = l0
 | [], l0, h => ⟨[], List.Perm.refl _, by rw [List.map_nil] at h; rw [List.Perm.eq_nil h]; rfl⟩
 | x :: L, l0, h => by
  obtain ⟨a, b, rfl⟩ := List.append_of_mem (h.symm.subset (List.mem_cons_self ..) : f x ∈ l0)
  have h1 : (a ++ b).Perm (L.map f) := by
   have h2 : (f x :: (a ++ b)).Perm (f x :: L.map f) := (List.perm_middle.symm).trans h
   exact h2.cons_inv
  obtain ⟨l'', h3, h4⟩ := perm_lift h1
  refine ⟨l''.take a.length ++ x :: l''.drop a.length, ?_, ?_⟩
  ·
   refine List.perm_middle.trans (List.Perm.cons _ ?_)
   rw [List.take_append_drop]
   exact h3
  ·
   rw [List.map_append, List.map_cons, List.map_take, List.map_drop, h4, List.take_left, List.drop_left]
theorem encT_take (tk : List Sc) (j : Nat) : (encT (tk.take j)).length ≤ (encT tk).length := by
 have h := congrArg (fun l => (encT l).length) (List.take_append_drop j tk)
 simp only [encT, List.flatMap_append, List.length_append] at h ⊢
 omega
theorem flatU_take (us : List (List UInt8)) (j : Nat) : (us.take j).flatten.length ≤ us.flatten.length := by
 have h := congrArg (fun l => (List.flatten l).length) (List.take_append_drop j us)
 simp only [List.flatten_append, List.length_append] at h
 omega
end Go.Proofs.YtheijpjfpaghfaaGreatDoor
