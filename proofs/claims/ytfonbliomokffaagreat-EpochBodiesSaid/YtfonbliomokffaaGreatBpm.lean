/- The reference's ReplyBody and Body. -/
import Derived.Test.YtfonbliomokffaaGreatBom
namespace Go.Proofs.YtfonbliomokffaaGreat
open Go Go.RowKit Gf Sha

theorem ls8_bs {w : World} {A : Option Addr} {n c : Nat} {l : List UInt8} (h : LS rB8 1 1 w A n c l) : BS w A n c l := by
  refine ⟨h.1, h.2.1, by have := h.2.2.1; omega, fun k hk => ?_⟩
  have hk' : k < l.length := by rw [h.1]; exact hk
  obtain ⟨g, o, cs, e, hat, hr⟩ := h.2.2.2 k hk'
  refine ⟨g, o, e, ?_⟩
  have hr' : cs = [B l[k]] := hr
  show _ = some (B (gB l k))
  rw [gB_eq hk']
  rw [hr', Nat.mul_one] at hat
  exact hat 0 _ rfl
theorem ol8_bs {w0 w : World} {v : Value} {l : List UInt8} (h : OL rB8 1 5 w0 w v l) (hb : Below w0.heap.size w0 w) (hl : l.length ≤ lim) : ∃ A c, v = .slice A l.length c ∧ BS w A l.length c l := by
  obtain ⟨A, c, e, h9⟩ := h.ls (b := 1) stay_b8 hb (by omega)
  exact ⟨A, c, e, ls8_bs h9⟩
section
variable {P : Program} (w : World) {ops : Array Oper} {rest : List Oper} {o : Oper} {a : Act} {Q : Exit → Act → World → Prop}
/-- append(r, x...), x of another type (a string). -/
theorem wpList_appT (hg : o.guard = none) (sl x : Operand) (t tx te : TypeId) (s : Nat) (i : TypeInfo) (z : Value) (hop : o.op = .call { callee := .builtin .append, args := #[sl, x], argTypes := #[t, tx] })
    (ht : P.underlying t = some (.slice te)) (hi : P.info? te = some i) (hz : i.zero = some z) (hs : i.size = s) (hzs : z.cells.size = s) (v : Value) (n : Nat) (l : List Value) (hv : a.eval sl = v) (h : RW w te s v n l)
    (xv : Value) (m : Nat) (xs : List Value) (hx : a.eval x = xv) (hsrc : Src P s tx xv m xs w) (hm : 0 < m) (hb : (n + m) * i.bytes ≤ 140737488355328) (hn : n + m ≤ 140737488355328)
    (hK : ∀ v' w', AppR w te s v n m l xs v' w' → wpList P ops Q rest (a.put o.dst v') w') : wpList P ops Q (o :: rest) a w :=
  wpList_plain hg fun _ hK' => by
    obtain ⟨v', w', hr, h2⟩ := run_appRW (rt := o.type) ht hi hz hs hzs h hsrc hm hb hn
    unfold Oper.wp execOp
    simp only [hop, resolve, invoke, builtin, Sem.run_bind, Sem.run_pure, Result.andThen_ok, List.map_toArray, List.map_cons, List.map_nil, hv, hx, hr]
    exact hK' _ _ (hK _ _ h2)
end
theorem byteCells_str (l : List UInt8) : byteCells (strB l) = l.map B := by simp [byteCells, strB, B, bv]
/-- Bytes in a slice of their own. -/
def BodyR (l : List UInt8) (w : World) (e : Ending) (w' : World) : Prop := ∃ A c, e = .returned (.slice A l.length c) ∧ BS w' A l.length c l ∧ Below w.heap.size w w'
section
set_option maxRecDepth 100000
set_option maxHeartbeats 2000000
theorem rreply_any (cs : List Value) (p : Pp) (w : World) (h : rPp w cs p) (hv : validB p = true) :
    Calls Tryz.prog 32 #[.agg cs.toArray] w (BodyR (rbL p) w) := by
  have HV := Lib.hid (valid_p hv)
  have HVD := Lib.hid (valid_dev hv)
  obtain ⟨A1, n1, c1, A2, n2, c2, rfl, _, _, _, hq, _⟩ := h
  have HQ := Lib.hid (wfI_lt hq)
  have HRL := Lib.hid (rbL_len p)
  go_enter Tryz.func32, Tryz.ntmps32
  go_wp2_with (first
    | ((with_reducible show wpList _ _ _ (⟨some 1, _, _, _, _, _⟩ :: _) _ _); refine wpList_box _ rfl 40 (.tmp 0) rfl (ppC p A1 n1 c1 A2 n2 c2) rfl ?_; intro w1 y1 y2 y3; have HP1 := Lib.hid y1; have HB1 := Lib.hid y2; clear y1 y2 y3))
  refine Text.wp_region_text (fun w' => w'.cell? ⟨w.heap.size, 0, none⟩ = some (.int .i64 p.dev) ∧ w'.cell? ⟨w.heap.size, 1, none⟩ = some (.int .i64 p.seq)) [(0, 4), (3, 4), (1, 0), (4, 0), (2, 2), (5, 2), (6, 4)] (by kernel_rfl) (by kernel_rfl) (fun _ _ _ _ _ h => h) (⟨HP1.out.get (j := 0) rfl, HP1.out.get (j := 1) rfl⟩) ?_
  iterate 2 (refine Text.purek rfl rfl (fun K hK => ⟨_, fun w' => by go_simp <;> rfl, ?_⟩); go_simp; refine hK _ ?_; clear hK K)
  iterate 2 (refine Text.heldk rfl rfl (fun K hK => ⟨_, fun w' hw' => by go_simp <;> rfl, ?_⟩); go_simp; refine hK _ ?_; clear hK K)
  refine Text.eff rfl rfl (fun K hK => ?_)
  go_simp
  refine (refnum_any w1 (.slice none 0 0) [] p.dev w1.drew (OL.nil _ _ _ _ _) (Below.refl _ _).drew (by have := HVD.out; omega) (by have := HVD.out; omega) (by simp)).mono ?_
  rintro e w2 ⟨v2, rfl, x1, x2⟩
  have HO2 := Lib.hid x1
  have HB2 := Lib.hid x2
  refine hK _ _ ⟨(HP1.out.kept x2).get (j := 0) rfl, (HP1.out.kept x2).get (j := 1) rfl⟩ ?_
  clear hK K x1 x2
  refine Text.eff rfl rfl (fun K hK => ?_)
  go_simp
  refine (refnum_any w1 v2 ([] ++ uv p.dev.toNat) p.seq w2 HO2.out HB2.out (by have := HVD.out; omega) (by have := HQ.out; omega) (by have := (uv_length p.dev.toNat).2; simp; omega)).mono ?_
  rintro e w3 ⟨v3, rfl, x1, x2⟩
  have HO3 : Hid (OL rB8 1 5 w1 w3 v3 (rbL p)) := Lib.hid (by simpa [rbL] using x1)
  have HB3 := Lib.hid x2
  refine hK _ _ ⟨(HP1.out.kept x2).get (j := 0) rfl, (HP1.out.kept x2).get (j := 1) rfl⟩ ?_
  clear hK K x1 x2
  (refine Text.purek rfl rfl (fun K hK => ⟨_, fun w' => by go_simp <;> rfl, ?_⟩); go_simp; refine hK _ ?_; clear hK K)
  refine Text.done ?_
  obtain ⟨A3, c3, rfl, h9⟩ := ol8_bs HO3.out HB3.out (by have := HRL.out; unfold lim; omega)
  have H9 := Lib.hid h9
  clear h9
  go_wp2_with fail
  go_ret
  exact ⟨A3, c3, rfl, H9.out, below_then HB1.out HB3.out⟩
theorem rbody_any (cs : List Value) (p : Pp) (w : World) (h : rPp w cs p) (hv : validB p = true) :
    Calls Tryz.prog 31 #[.agg cs.toArray] w (BodyR (bodyL p) w) := by
  have HV := Lib.hid (valid_p hv)
  obtain ⟨A1, n1, c1, A2, n2, c2, rfl, h1, h2, _⟩ := h
  have hn1 := h1.len_le
  have hn2 := h2.len_le
  have HW1 := Lib.hid h1
  have HW2 := Lib.hid h2
  have HN : Hid (n1 ≤ 3 ∧ n2 ≤ 1024 ∧ p.ws.length = n1 ∧ p.ss.length = n2) := Lib.hid ⟨by have := (valid_p hv).w3; have := h1.1; omega, by have := (valid_p hv).s2; have := h2.1; omega, h1.1, h2.1⟩
  clear h1 h2
  go_enter Tryz.func31, Tryz.ntmps31
  go_wp2_with (first
    | ((with_reducible show wpList _ _ _ (⟨some 1, _, _, _, _, _⟩ :: _) _ _); refine wpList_box _ rfl 40 (.tmp 0) rfl (ppC p A1 n1 c1 A2 n2 c2) rfl ?_; intro w1 y1 y2 y3; have HP1 := Lib.hid y1; have HB1 := Lib.hid y2; clear y1 y2 y3))
  refine Text.wp_region_text (fun w' => w'.cell? ⟨w.heap.size, 2, none⟩ = some (.int .i64 p.vault) ∧ w'.cell? ⟨w.heap.size, 3, none⟩ = some (.slice A1 n1 c1)) [(0, 4), (3, 4), (1, 0), (4, 0), (5, 4), (2, 2), (6, 2), (7, 4)] (by kernel_rfl) (by kernel_rfl) (fun _ _ _ _ _ h => h) (⟨HP1.out.get (j := 2) rfl, HP1.out.get (j := 3) rfl⟩) ?_
  iterate 2 (refine Text.purek rfl rfl (fun K hK => ⟨_, fun w' => by go_simp <;> rfl, ?_⟩); go_simp; refine hK _ ?_; clear hK K)
  iterate 2 (refine Text.heldk rfl rfl (fun K hK => ⟨_, fun w' hw' => by go_simp <;> rfl, ?_⟩); go_simp; refine hK _ ?_; clear hK K)
  (refine Text.purek rfl rfl (fun K hK => ⟨_, fun w' => by go_simp <;> rfl, ?_⟩); go_simp; refine hK _ ?_; clear hK K)
  refine Text.eff rfl rfl (fun K hK => ?_)
  go_simp
  refine (refnum_any w1 (.slice none 0 0) [] p.vault w1.drew (OL.nil _ _ _ _ _) (Below.refl _ _).drew (by have := HV.out.v0; omega) (by have := HV.out.v1; omega) (by simp)).mono ?_
  rintro e w2 ⟨v2, rfl, x1, x2⟩
  have HO2 := Lib.hid x1
  have HB2 := Lib.hid x2
  refine hK _ _ ⟨(HP1.out.kept x2).get (j := 2) rfl, (HP1.out.kept x2).get (j := 3) rfl⟩ ?_
  clear hK K x1 x2
  refine Text.eff rfl rfl (fun K hK => ?_)
  go_simp
  refine (refnum_any w1 v2 ([] ++ uv p.vault.toNat) (n1 : Int) w2 HO2.out HB2.out (by omega) (by have := HN.out; omega) (by have := (uv_length p.vault.toNat).2; simp; omega)).mono ?_
  rintro e w3 ⟨v3, rfl, x1, x2⟩
  have HO3 : Hid (OL rB8 1 5 w1 w3 v3 (bl1 p 0)) := Lib.hid (by
    have e : bl1 p 0 = [] ++ uv p.vault.toNat ++ uv ((n1 : Int)).toNat := by simp [bl1, uvs, HN.out.2.2.1]
    rw [e]; exact x1)
  have HB3 := Lib.hid x2
  refine hK _ _ ⟨(HP1.out.kept x2).get (j := 2) rfl, (HP1.out.kept x2).get (j := 3) rfl⟩ ?_
  clear hK K x1 x2
  (refine Text.purek rfl rfl (fun K hK => ⟨_, fun w' => by go_simp <;> rfl, ?_⟩); go_simp; refine hK _ ?_; clear hK K)
  refine Text.done ?_
  have q3 := (HP1.out.kept HB3.out).get (j := 3) rfl
  go_wp2_with fail
  clear q3
  go_loopw [3, 18] (fun bv0 iv wr => ∃ (k : Nat) (v : Value), k ≤ n1 ∧ iv = .int .i64 (k : Int) ∧ v = bv0 ∧ Hid (OL rB8 1 5 w1 wr v (bl1 p k)) ∧ Hid (Below w1.heap.size w1 wr)) (fun _ iv _ => n1 - (intOf iv).toNat)
  case atStart => exact ⟨0, _, by omega, rfl, rfl, HO3, HB3⟩
  case round =>
    obtain ⟨k, v, hk, rfl, rfl, ho, hb⟩ := hrel
    obtain ⟨wx, hwx⟩ : ∃ x, x = wr := ⟨_, rfl⟩
    rw [← hwx] at ho hb ⊢
    clear hwx
    by_cases hlt : k < n1
    · obtain ⟨x, g, o, hs, ea, q0⟩ := HW1.out.int_at (below_then HB1.out hb.out) hlt
      have HX : Hid (0 ≤ x ∧ x < 12) := Lib.hid (HV.out.ws x (mem_of hs))
      have HST := Lib.hid (bl1_step hs)
      have HLL : Hid ((bl1 p k).length ≤ 1000000) := Lib.hid (by have := bl1_len p k; have := HN.out; omega)
      subst ea
      clear hs
      go_wp2_with (first
        | (go_at_call 64; refine (refnum_any w1 v (bl1 p k) x wx ho.out hb.out HX.out.1 (by have := HX.out.2; omega) HLL.out).mono ?_; rintro e w5 ⟨v5, rfl, x1, x2⟩; rw [HST.out] at x1; have HO5 := Lib.hid x1; have HB5 := Lib.hid x2; clear x1 x2))
      go_roundw
      case rel => exact ⟨k + 1, _, by omega, by go_num, rfl, HO5, HB5⟩
      case measure => simp [intOf]; omega
    · obtain rfl : k = n1 := by omega
      have q4 := (HP1.out.kept hb.out).get (j := 4) rfl
      have HE0 : Hid (bl1 p k ++ uv ((n2 : Int)).toNat = bl2 p 0) := Lib.hid (by simp [bl2, HN.out.2.2.1, HN.out.2.2.2])
      have HLL : Hid ((bl1 p k).length ≤ 1000000) := Lib.hid (by have := bl1_len p k; have := HN.out; omega)
      go_wp2_with (first
        | (go_at_call 64; refine (refnum_any w1 v (bl1 p k) (n2 : Int) wx ho.out hb.out (by omega) (by have := HN.out; omega) HLL.out).mono ?_; rintro e w5 ⟨v5, rfl, x1, x2⟩; rw [HE0.out] at x1; have HO5 := Lib.hid x1; have HB5 := Lib.hid x2; have q4 := (HP1.out.kept x2).get (j := 4) rfl; clear x1 x2))
      clear q4
      go_loopw [3, 34] (fun bv0 iv wr => ∃ (j : Nat) (v : Value), j ≤ n2 ∧ iv = .int .i64 (j : Int) ∧ v = bv0 ∧ Hid (OL rB8 1 5 w1 wr v (bl2 p j)) ∧ Hid (Below w1.heap.size w1 wr)) (fun _ iv _ => n2 - (intOf iv).toNat)
      case atStart => exact ⟨0, _, by omega, rfl, rfl, HO5, HB5⟩
      case round =>
        obtain ⟨j, v9, hj, rfl, rfl, ho', hb'⟩ := hrel
        obtain ⟨wy, hwy⟩ : ∃ x, x = wr := ⟨_, rfl⟩
        rw [← hwy] at ho' hb' ⊢
        clear hwy
        by_cases hjn : j < n2
        · obtain ⟨s, g, o, hs, ea, q0⟩ := HW2.out.str_at (below_then HB1.out hb'.out) hjn
          have HS32 : Hid (s.length = 32) := Lib.hid (HV.out.ss s (mem_of hs))
          have HST := Lib.hid (bl2_step hs)
          have HLL : Hid ((bl2 p j).length ≤ 33000) := Lib.hid (bl2_len hv j)
          subst ea
          clear hs
          go_wp2_with (first
            | ((with_reducible show wpList _ _ _ (⟨some 40, _, _, _, _, _⟩ :: _) _ _); obtain ⟨iS, i1, i2, i3, i4⟩ := info_some infoB8; obtain ⟨css, o1, o2, o3, o4, o5⟩ := ho'.out; refine wpList_appT _ rfl (.tmp 38) (.tmp 39) 31 9 5 1 iS _ rfl Tryz.underlying31 i1 i2 i3 rfl v9 _ css.flatten rfl o4 (.string (strB s)) (strB s).size (byteCells (strB s)) rfl (Src.ofString wy Tryz.underlying9 (strB s)) (by rw [strB_size, HS32.out]; decide) (by rw [i4, strB_size, HS32.out]; have := HLL.out; omega) (by rw [strB_size, HS32.out]; have := HLL.out; omega) ?_; intro v10 w10 ap; rw [byteCells_str, ← b8_flat] at ap; have HO10 : Hid (OL rB8 1 5 w1 w10 v10 (bl2 p j ++ s)) := Lib.hid (OL.app o1 o2 o3 o5 rfl (by simp) (by intro cs hcs; obtain ⟨x, _, rfl⟩ := List.mem_map.1 hcs; rfl) (fun k hk hk' => by simp [rB8]) (strB_size s).symm hb'.out.size ap); have HB10 : Hid (Below w1.heap.size w1 w10) := Lib.hid (low_kp hb'.out ap.kp (fun i hi e => by have := o5 i e; omega)); clear ap o1 o2 o3 o4 o5 i1 i2 i3 i4))
          go_roundw
          case rel => exact ⟨j + 1, _, by omega, by go_num, rfl, Lib.hid (by rw [← HST.out]; exact HO10.out), HB10⟩
          case measure => simp [intOf]; omega
        · obtain rfl : j = n2 := by omega
          have HE : Hid (bl2 p j = bodyL p) := Lib.hid (by rw [bodyL, HN.out.2.2.2])
          have ho2 := ho'.out
          rw [HE.out] at ho2
          obtain ⟨A9, c9, rfl, h9⟩ := ol8_bs ho2 hb'.out (by rw [← HE.out]; have := bl2_len hv j; unfold lim; omega)
          have H9 := Lib.hid h9
          clear h9 ho2
          go_wp2_with fail
          go_ret
          exact ⟨A9, c9, rfl, H9.out, below_then HB1.out hb'.out⟩
end
end Go.Proofs.YtfonbliomokffaaGreat
