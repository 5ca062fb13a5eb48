/- Several texts in one: Pu7. -/
import Derived.Test.YtheijpjfpaghfaaGreatDoorC16
/- Purse.Add where the tokens are valid, of the purse's piece, and not too many. -/
namespace Go.Proofs.YtheijpjfpaghfaaGreatDoor
open Go Go.RowKit Gf

theorem bslSec (x y : List UInt8) (w : World) : (Instr.buildSlice 78 1 #[(0, .agg #[.string (strB x), .string (strB y)])]).run Tryz.prog w = .ok (.slice (some ⟨w.heap.size, 0, none⟩) 1 1) (w.alloc (.cells [.string (strB x), .string (strB y)].toArray 109)) := by kernel_rfl
theorem eqMap (gm : Nat) (w : World) : (binOp .eql 92 (.map (some gm)) (.map none)).run Tryz.prog w = .ok (.bool false) w := by kernel_rfl
theorem exec_eqMap {o : Oper} {a : Act} {x : Operand} {gm : Nat} {w : World} (hop : o.op = .binOp .eql 92 x (.const (.map none)) 92) (hx : a.eval x = .map (some gm)) : (execOp a.eval o).run Tryz.prog w = .ok (.value (.bool false)) w := by
 have hc : a.eval (.const (.map none)) = .map none := rfl
 unfold execOp
 simp only [hop, hx, hc]
 simp [eqMap, eqGuard, Result.andThen]
theorem setMap : Tryz.prog.underlying 116 = some (.map 9 4) := by kernel_rfl
theorem outMap : Tryz.prog.underlying 115 = some (.map 39 116) := by kernel_rfl
theorem boolZero : (Tryz.prog.info? 4).map (·.zero) = some (some (.bool false)) := by kernel_rfl
theorem mapZero : (Tryz.prog.info? 116).map (·.zero) = some (some (.map none)) := by kernel_rfl
theorem found_none {x z v : Value} {f : Bool} (h : Found [] x z v f) : v = z ∧ f = false := by
 cases h with
 | yes i v h => simp at h
 | no h => exact ⟨rfl, rfl⟩
theorem found_one {x y z v : Value} {f : Bool} (h : Found [(x, y)] x z v f) : v = y ∧ f = true := by
 cases h with
 | yes i v h =>
  cases i with
  | zero => simp only [List.getElem?_cons_zero, Option.some.injEq, Prod.mk.injEq] at h; exact ⟨h.2.symm, rfl⟩
  | succ i => simp at h
 | no h => exact absurd rfl (h _ (List.mem_singleton_self _))
theorem stored_none {x v : Value} {L' : List (Value × Value)} (h : Stored [] x v L') : L' = [(x, v)] := by
 cases h with
 | old i u h => simp at h
 | new h => rfl
/-- The state of the second loop: j tokens seen. -/
def Seen (w : World) (mb lo : Nat) (s : List UInt8) (i : Int) (kn : List (List UInt8)) (xs : List Sc) (j : Nat) : Prop :=
 (j = 0 ∧ MB Tryz.prog 39 w mb []) ∨ ∃ ib, lo ≤ ib ∧ MB Tryz.prog 39 w mb [(pidV s i, .map (some ib))] ∧ SetB w ib (kn ++ (xs.take j).map (·.1))
/-- What Add leaves. -/
def AddRet (w : World) (gp gm : Nat) (s : List UInt8) (i : Int) (tv uv : Value) (tk : List Sc) (us : List (List UInt8)) (xs : List Sc) (e : Ending) (w' : World) : Prop :=
 if addB (us ++ tk.map (·.1)) xs then e = .returned (.int .i64 0) ∧ ∃ tv', PQ w' gp gm s i tv' uv (tk ++ xs) us ∧ Kp (PB gm tv uv) w w' ∧ ∀ b, PB gm tv' uv b → PB gm tv uv b ∨ w.heap.size ≤ b
 else e = .returned (.int .i64 5) ∧ Below w.heap.size w w'

set_option maxRecDepth 100000 in
set_option maxHeartbeats 4000000 in
theorem add_any (w : World) (gp gm : Nat) (s : List UInt8) (i : Int) (tv uv : Value) (tk : List Sc) (us : List (List UInt8)) (A : Option Addr) (n c : Nat) (xs : List Sc) (h : PQ w gp gm s i tv uv tk us) (hx : TkP w A n c s i xs) (hv : tokB s i xs = true) (hn : tk.length + us.length + n ≤ 4096) (hkn : ∀ y ∈ us ++ tk.map (·.1), y.length ≤ 9223372036854775807) (hfar : ∀ a, A = some a → ¬ PB gm tv uv a.block) :
  Calls Tryz.prog 12 #[.pointer (some ⟨gp, 0, none⟩), .slice A n c] w (AddRet w gp gm s i tv uv tk us xs) := by
 have HP := Lib.hid h
 have HX := Lib.hid hx
 have HN := Lib.hid hn
 have HKN := Lib.hid hkn
 have HFAR := Lib.hid hfar
 have hv2 := hv
 simp only [tokB, Bool.and_eq_true, List.all_eq_true, decide_eq_true_eq] at hv2
 have HID := Lib.hid hv2.1
 have HLN := Lib.hid hv2.2
 have hn0 : 0 ≤ (n : Int) := by omega
 have hnb : (n : Int) ≤ 100000 := by have := hx.2.2.1; omega
 clear h hx hv hv2 hn hkn hfar
 go_enter Tryz.func12, Tryz.ntmps12
 go_wp2_with fail
 go_loopw [19] (fun iv wr => ∃ k : Nat, k ≤ n ∧ iv = .int .i64 (k : Int) ∧ Hid (Below w.heap.size w wr)) (fun iv _ => n - (intOf iv).toNat)
 case atStart => exact ⟨0, by omega, rfl, Lib.hid (Below.refl _ _)⟩
 case round =>
  obtain ⟨k, hk, rfl, hb⟩ := hrel
  obtain ⟨wx, hwx⟩ : ∃ x, x = wr := ⟨_, rfl⟩
  rw [← hwx] at hb ⊢
  clear hwx
  by_cases hlt : k < n
  ·
   obtain ⟨g, o, rfl, hat⟩ := HX.out.2.2.2 k (by rw [HX.out.1]; exact hlt)
   have HAk := Lib.hid (hat.kept hb.out)
   have hkl : k < xs.length := by rw [HX.out.1]; exact hlt
   have HL := HLN.out xs[k] (List.getElem_mem _)
   obtain ⟨x, hx⟩ : ∃ x, x = xs[k] := ⟨_, rfl⟩
   rw [← hx] at HAk HL
   have t1 : (((strB x.1).size : Int) != 32) = false := by rw [strB_size, HL.1]; rfl
   have t2 : (((strB x.2).size : Int) != 32) = false := by rw [strB_size, HL.2]; rfl
   clear hat hx HL hkl
   go_wp2_with (first
    | ((with_reducible show OpW 22); refine wpList_loadv _ rfl 45 (.tmp 21) rfl 4 (by kernel_rfl) g (o + k * 4) (tokC s i x) rfl HAk.out rfl ?_)
    | ((with_reducible show OpW 6); refine wpList_alloc _ rfl 45 rfl tokZ tokZero ?_; intro w3 a1 a2 a3; have HV3 := Lib.hid a1; have HX3 := Lib.hid a2; clear a1 a2 a3)
    | ((with_reducible show OpN); refine wpList_storev _ rfl 45 (.tmp 6) (.tmp 22) rfl 4 (by kernel_rfl) wx.heap.size 0 _ tokZ (tokC s i x) rfl rfl HV3.out rfl (tokC_one s i x) (by decide) ?_; intro w4 a1 a2 a3; have HV4 : Hid (BL w4 wx.heap.size 45 (tokC s i x)) := Lib.hid a1; have HX4 : Hid (Below wx.heap.size wx w4) := Lib.hid (((Kp.of_below (S := fun _ => False) HX3.out).after a2 (fun i hi e => by omega)).below (Nat.le_refl _) (fun _ h => h.elim)); clear a1 a2 a3)
    | ((with_reducible show OpW 24); refine wpList_loadv _ rfl 39 (.tmp 23) rfl 2 (by kernel_rfl) wx.heap.size 0 [.string (strB s), .int .i64 i] rfl (At.left (xs := [.string (strB x.1), .string (strB x.2)]) (BL.all HV4.out)) rfl ?_)
    | (go_at_call 33; refine (isID_any s i w4).mono ?_; rintro e w5 ⟨rfl, b1⟩; rw [HID.out]; have HX5 := Lib.hid (below_thenB HX4.out HX4.out.size b1); have HV5 := Lib.hid (HV4.out.kept b1); have q2 := HV5.out.get (j := 2) rfl; have q3 := HV5.out.get (j := 3) rfl; clear b1))
   go_roundw
   case rel => exact ⟨k + 1, by omega, by go_num, Lib.hid (below_thenB hb.out hb.out.size HX5.out)⟩
   case measure => simp [intOf]; omega
  ·
   obtain rfl : k = n := by omega
   go_wp2_with (first
    | ((with_reducible show OpW 40); refine wpList_makeMap _ rfl 115 39 rfl ?_; intro w1 a1 a2 a3; have HM1 := Lib.hid a1; have HB1 := Lib.hid (below_thenB hb.out hb.out.size a2); have HZ1 := Lib.hid a3; clear a1 a2 a3))
   have HK0 : Hid (w.heap.size ≤ wx.heap.size) := Lib.hid hb.out.size
   go_loopw [43] (fun iv wr => ∃ j : Nat, j ≤ k ∧ iv = .int .i64 (j : Int) ∧ Hid (∀ q, (hq : q < xs.length) → q < j → ((us ++ tk.map (·.1)) ++ (xs.take q).map (·.1)).contains xs[q].1 = false) ∧ Hid (Seen wr wx.heap.size w1.heap.size s i (us ++ tk.map (·.1)) xs j) ∧ Hid (Below w.heap.size w wr) ∧ Hid (w1.heap.size ≤ wr.heap.size)) (fun iv _ => k - (intOf iv).toNat)
   case atStart => exact ⟨0, by omega, rfl, Lib.hid (fun q _ h => absurd h (by omega)), Lib.hid (.inl ⟨rfl, HM1.out⟩), HB1, Lib.hid (Nat.le_refl _)⟩
   case round =>
    obtain ⟨j, hj, rfl, hd, hsn, hb, hz⟩ := hrel
    obtain ⟨wy, hwy⟩ : ∃ x, x = wr := ⟨_, rfl⟩
    rw [← hwy] at hsn hb hz ⊢
    clear hwy
    by_cases hlt : j < k
    ·
     obtain ⟨g, o, rfl, hat⟩ := HX.out.2.2.2 j (by rw [HX.out.1]; exact hlt)
     have HAk := Lib.hid (hat.kept hb.out)
     have hjl : j < xs.length := by rw [HX.out.1]; exact hlt
     have HL := HLN.out xs[j] (List.getElem_mem _)
     have HTK : Hid ((xs.take (j + 1)).map (·.1) = (xs.take j).map (·.1) ++ [xs[j].1]) := Lib.hid (by rw [List.take_succ_eq_append_getElem hjl, List.map_append]; rfl)
     obtain ⟨x, hx⟩ : ∃ x, x = xs[j] := ⟨_, rfl⟩
     rw [← hx] at HAk HL HTK
     have HKY := Lib.hid (keyStr x.1 (by rw [HL.1]; decide))
     have HXE := Lib.hid hx
     clear hat hx HL
     have HIW : Hid ((Lit.int .i64 i).wf = true) := Lib.hid (by
      have := HID.out
      simp only [idB, Bool.and_eq_true, decide_eq_true_eq] at this
      have m1 : IntKind.i64.min = -9223372036854775808 := rfl
      have m2 : IntKind.i64.max = 9223372036854775807 := rfl
      simp only [Lit.wf, Bool.and_eq_true, decide_eq_true_eq]
      exact ⟨by omega, by omega⟩)
     have HSL : Hid (s.length ≤ 9223372036854775807) := Lib.hid (by
      have := HID.out
      simp only [idB, Bool.and_eq_true, decide_eq_true_eq] at this
      omega)
     have HPY := Lib.hid (keyPid s i HSL.out HIW.out)
     rcases hsn.out with ⟨h0, hm0⟩ | ⟨ib, hib, hm, hset⟩
     ·
      subst h0
      have HMB := Lib.hid hm0
      clear hsn hm0
      go_wp2_with (first
       | ((with_reducible show OpW 46); refine wpList_loadv _ rfl 45 (.tmp 45) rfl 4 (by kernel_rfl) g (o + 0 * 4) (tokC s i x) rfl HAk.out rfl ?_)
       | ((with_reducible show OpW 9); refine wpList_alloc _ rfl 45 rfl tokZ tokZero ?_; intro w3 a1 a2 a3; have HV3 := Lib.hid a1; have HX3 := Lib.hid a2; clear a1 a2 a3)
       | ((with_reducible show OpN); refine wpList_storev _ rfl 45 (.tmp 9) (.tmp 46) rfl 4 (by kernel_rfl) wy.heap.size 0 _ tokZ (tokC s i x) rfl rfl HV3.out rfl (tokC_one s i x) (by decide) ?_; intro w4 a1 a2 a3; have HV4 : Hid (BL w4 wy.heap.size 45 (tokC s i x)) := Lib.hid a1; have HX4 : Hid (Below wy.heap.size wy w4) := Lib.hid (((Kp.of_below (S := fun _ => False) HX3.out).after a2 (fun i hi e => by omega)).below (Nat.le_refl _) (fun _ h => h.elim)); clear a1 a2 a3)
       | ((with_reducible show OpW 50); refine wpList_loadv _ rfl 39 (.tmp 49) rfl 2 (by kernel_rfl) wy.heap.size 0 [.string (strB s), .int .i64 i] rfl (At.left (xs := [.string (strB x.1), .string (strB x.2)]) (BL.all HV4.out)) rfl ?_)
       | ((with_reducible show OpW 51); refine wpList_lookok _ rfl (.tmp 48) (.tmp 50) 115 39 116 rfl pidKeyed outMap (.map none) mapZero wx.heap.size _ rfl (HMB.out.kept HX4.out) (pidV s i) rfl HPY.out ?_; intro v f hf; obtain ⟨rfl, rfl⟩ := found_none hf; clear hf)
       | ((with_reducible show OpW 56); refine wpList_makeMap _ rfl 116 9 rfl ?_; intro w5 a1 a2 a3; have HI5 := Lib.hid (SetB.new a1); have HX5 := Lib.hid (below_thenB HX4.out HX4.out.size a2); have HV5 := Lib.hid (HV4.out.kept a2); have HZ5 := Lib.hid a3; clear a1 a2 a3))
      have HB5 := Lib.hid (below_thenB hb.out hb.out.size HX5.out)
      have HP5 := Lib.hid (HP.out.kept HB5.out)
      obtain ⟨L, hm, hL⟩ := HP5.out.m
      have HM5 := Lib.hid hm
      have HL5 := Lib.hid hL
      clear hm hL
      have HC5 : Hid (∀ w', Below w5.heap.size w5 w' → w'.cell? ⟨gp, 0, none⟩ = some (.map (some gm)) ∧ Below w5.heap.size w5 w') := Lib.hid (fun w' hb => ⟨(HP5.out.kept hb).p.get (j := 0) rfl, hb⟩)
      refine Text.wp_region_text (fun w' => w'.cell? ⟨gp, 0, none⟩ = some (.map (some gm)) ∧ Below w5.heap.size w5 w') [(0, 4), (1, 4), (2, 4), (4, 4), (9, 4), (3, 0), (5, 0), (6, 0), (7, 2), (8, 4)] (by kernel_rfl) (by kernel_rfl) (fun _ _ _ _ _ h => h) (HC5.out _ (Below.refl _ _).drew) ?_
      iterate 5 (refine Text.purek rfl rfl (fun K hK => ⟨_, fun w' => by go_simp <;> rfl, ?_⟩); go_simp; refine hK _ ?_; clear hK K)
      (refine Text.heldk rfl rfl (fun K hK => ⟨_, fun w' hw' => by go_simp <;> rfl, ?_⟩); go_simp; refine hK _ ?_; clear hK K)
      refine Text.heldk rfl rfl (fun K hK => ?_)
      refine ⟨_, fun w' hw' => exec_loadv 39 (.tmp 61) rfl 2 (by kernel_rfl) wy.heap.size 0 [.string (strB s), .int .i64 i] rfl (At.left (xs := [.string (strB x.1), .string (strB x.2)]) (BL.all (HV5.out.kept hw'.2))) rfl, ?_⟩
      go_simp
      refine hK _ ?_
      clear hK K
      refine Text.heldk rfl rfl (fun K hK => ?_)
      refine ⟨_, fun w' hw' => exec_look (.tmp 60) (.tmp 62) 92 39 80 rfl pidKeyed stMap (stV nilV nilV) stZero gm L rfl (HM5.out.kept hw'.2) (pidV s i) rfl HPY.out (stV tv uv) (fun v f hf => PQ.found HL5.out hf), ?_⟩
      go_simp
      refine hK _ ?_
      clear hK K
      refine Text.eff rfl rfl (fun K hK => ?_)
      go_simp
      refine (nonces_any w5.drew tv uv tk us ⟨HP5.out.st.t, HP5.out.st.u, HP5.out.st.bt, HP5.out.st.bu⟩).mono ?_
      rintro e w6 ⟨v6, rfl, b1, b2⟩
      have HX6 : Hid (Below w5.heap.size w5 w6) := Lib.hid (below_then (Below.refl _ _).drew (b2.mono (Nat.le_refl _)))
      obtain ⟨A6, c6, rfl, hc6⟩ := b1.1.form
      obtain ⟨m6, hm6⟩ : ∃ m, m = us.length + tk.length := ⟨_, rfl⟩
      rw [← hm6] at b1 ⊢
      have HO6 := Lib.hid b1
      have HM6 : Hid (m6 = (us ++ tk.map (·.1)).length) := Lib.hid (by rw [hm6, List.length_append, List.length_map])
      have hm0' : 0 ≤ (m6 : Int) := by omega
      have hm1' : (m6 : Int) ≤ 4096 := by have := HN.out; omega
      clear hm6 hc6
      refine hK _ _ (HC5.out _ HX6.out) ?_
      clear hK K b1 b2
      (refine Text.purek rfl rfl (fun K hK => ⟨_, fun w' => by go_simp <;> rfl, ?_⟩); go_simp; refine hK _ ?_; clear hK K)
      refine Text.done ?_
      go_wp2_with fail
      go_loopw [66] (fun iv wr => ∃ q : Nat, q ≤ m6 ∧ iv = .int .i64 (q : Int) ∧ Hid (SetB wr w4.heap.size ((us ++ tk.map (·.1)).take q)) ∧ Hid (Kp (fun b => b = w4.heap.size) w6 wr)) (fun iv _ => m6 - (intOf iv).toNat)
      case atStart => exact ⟨0, by omega, rfl, Lib.hid (by rw [List.take_zero]; exact HI5.out.kept HX6.out), Lib.hid (Kp.refl _ _)⟩
      case round =>
       obtain ⟨q, hq, rfl, hse, hkp⟩ := hrel
       obtain ⟨wz, hwz⟩ : ∃ x, x = wr := ⟨_, rfl⟩
       rw [← hwz] at hse hkp ⊢
       clear hwz
       by_cases hlt6 : q < m6
       ·
        obtain ⟨g6, o6, c6', e6, _, hat6⟩ := HO6.out.1.at_ (by omega)
        cases e6
        have hql : q < (us ++ tk.map (·.1)).length := by rw [← HM6.out]; exact hlt6
        have r6 : w6.cell? ⟨g6, o6 + q, none⟩ = some (usC ((us ++ tk.map (·.1))[q])) := hat6 q _ (by rw [List.getElem?_map, List.getElem?_eq_getElem hql]; rfl)
        have hg6 : ¬ g6 = w4.heap.size := by
         have h1 : w5.heap.size ≤ g6 := HO6.out.2 g6 rfl
         have := HZ5.out
         omega
        have r7 := hkp.out.cell r6 hg6
        have HKY6 := Lib.hid (keyStr ((us ++ tk.map (·.1))[q]) (HKN.out _ (List.getElem_mem _)))
        have HTQ : Hid ((us ++ tk.map (·.1)).take (q + 1) = (us ++ tk.map (·.1)).take q ++ [(us ++ tk.map (·.1))[q]]) := Lib.hid (List.take_succ_eq_append_getElem hql)
        obtain ⟨y, hy⟩ : ∃ y, y = (us ++ tk.map (·.1))[q] := ⟨_, rfl⟩
        rw [← hy] at r7 HKY6 HTQ
        clear hy r6 hat6 hql
        go_wp2_with (first
         | ((with_reducible show OpN); have hse2 := hse.out; obtain ⟨Ls, l1, l2, l3⟩ := hse2; refine wpList_upd _ rfl (.tmp 70) (.tmp 71) _ 116 9 4 rfl strKeyed setMap w4.heap.size Ls rfl l1 (usC y) (.bool true) rfl rfl HKY6.out ?_; intro w7 L' h1 h2 h3 h4; have HS7 : Hid (SetB w7 w4.heap.size ((us ++ tk.map (·.1)).take q ++ [y])) := Lib.hid ⟨L', h2, set_stored l2 l3 h1⟩; have HK7 := Lib.hid (hkp.out.trans h3); clear h1 h2 h3 h4 l1 l2 l3))
        go_roundw
        case rel => exact ⟨q + 1, by omega, by go_num, Lib.hid (by rw [HTQ.out]; exact HS7.out), HK7⟩
        case measure => simp [intOf]; omega
       ·
        obtain rfl : q = m6 := by omega
        have HSZ : Hid (w.heap.size ≤ wx.heap.size ∧ wx.heap.size < w1.heap.size ∧ w1.heap.size ≤ wy.heap.size ∧ wy.heap.size < w4.heap.size) := Lib.hid ⟨HK0.out, by have := HZ1.out; omega, hz.out, HV4.out.lt⟩
        have HBz : Hid (Below w.heap.size w wz) := Lib.hid (((Kp.of_below (S := fun _ => False) (below_thenB HB5.out HB5.out.size HX6.out)).after hkp.out (fun i hi e => by have := HSZ.out; omega)).below (Nat.le_refl _) (fun _ h => h.elim))
        have HVz := Lib.hid ((HV5.out.kept HX6.out).kp hkp.out (fun e => by have := HSZ.out; omega))
        have HMBz := Lib.hid (((HMB.out.kept HX5.out).kept HX6.out).kp hkp.out (fun e => by have := HSZ.out; omega))
        have HSz : Hid (SetB wz w4.heap.size ((us ++ tk.map (·.1)) ++ (xs.take 0).map (·.1))) := Lib.hid (by
         have := hse.out
         rw [HM6.out, List.take_length] at this
         simpa using this)
        clear hse HMB HI5 HM5 HL5 HC5 HP5
        by_cases hc : ((us ++ tk.map (·.1)) ++ (xs.take 0).map (·.1)).contains x.1 = true
        ·
         have HC := Lib.hid hc
         have HAF : Hid (addB (us ++ tk.map (·.1)) xs = false) := Lib.hid (addB_no hjl (by rw [← HXE.out]; exact hc))
         clear hc
         go_wp2_with (first
          | ((with_reducible show OpW 75); refine wpList_loadv _ rfl 39 (.tmp 74) rfl 2 (by kernel_rfl) wy.heap.size 0 [.string (strB s), .int .i64 i] rfl (At.left (xs := [.string (strB x.1), .string (strB x.2)]) (BL.all HVz.out)) rfl ?_)
          | ((with_reducible show OpN); refine wpList_upd _ rfl (.tmp 73) (.tmp 75) (.tmp 76) 115 39 116 rfl pidKeyed outMap wx.heap.size [] rfl HMBz.out (pidV s i) (.map (some w4.heap.size)) rfl rfl HPY.out ?_; intro w8 L' h1 h2 h3 h4; obtain rfl := stored_none h1; have HMB8 := Lib.hid h2; have HK8 := Lib.hid h3; have HZ8 := Lib.hid h4; have HS8 := Lib.hid (HSz.out.kp h3 (fun e => by have := HSZ.out; omega)); have HV8 := Lib.hid (HVz.out.kp h3 (fun e => by have := HSZ.out; omega)); have q2 := HV8.out.get (j := 2) rfl; clear h1 h2 h3 h4)
          | ((with_reducible show OpW 80); have hse := HS8.out; obtain ⟨Ls, l1, l2, l3⟩ := hse; refine wpList_look _ rfl (.tmp 77) (.tmp 79) 116 9 4 rfl strKeyed setMap (.bool false) boolZero w4.heap.size Ls rfl l1 (usC x.1) rfl HKY.out ?_; intro v f hf; obtain rfl := set_found l2 l3 hf; rw [HC.out]; clear hf l1 l2 l3))
         go_ret
         unfold AddRet
         rw [HAF.out]
         exact ⟨rfl, ((Kp.of_below (S := fun _ => False) HBz.out).after HK8.out (fun i hi e => by have := HSZ.out; omega)).below (Nat.le_refl _) (fun _ h => h.elim)⟩
        ·
         have hc' := Bool.eq_false_iff.2 hc
         have HC := Lib.hid hc'
         clear hc hc'
         go_wp2_with (first
          | ((with_reducible show OpW 75); refine wpList_loadv _ rfl 39 (.tmp 74) rfl 2 (by kernel_rfl) wy.heap.size 0 [.string (strB s), .int .i64 i] rfl (At.left (xs := [.string (strB x.1), .string (strB x.2)]) (BL.all HVz.out)) rfl ?_)
          | ((with_reducible show OpN); refine wpList_upd _ rfl (.tmp 73) (.tmp 75) (.tmp 76) 115 39 116 rfl pidKeyed outMap wx.heap.size [] rfl HMBz.out (pidV s i) (.map (some w4.heap.size)) rfl rfl HPY.out ?_; intro w8 L' h1 h2 h3 h4; obtain rfl := stored_none h1; have HMB8 := Lib.hid h2; have HK8 := Lib.hid h3; have HZ8 := Lib.hid h4; have HS8 := Lib.hid (HSz.out.kp h3 (fun e => by have := HSZ.out; omega)); have HV8 := Lib.hid (HVz.out.kp h3 (fun e => by have := HSZ.out; omega)); have q2 := HV8.out.get (j := 2) rfl; clear h1 h2 h3 h4)
          | ((with_reducible show OpW 80); have hse := HS8.out; obtain ⟨Ls, l1, l2, l3⟩ := hse; refine wpList_look _ rfl (.tmp 77) (.tmp 79) 116 9 4 rfl strKeyed setMap (.bool false) boolZero w4.heap.size Ls rfl l1 (usC x.1) rfl HKY.out ?_; intro v f hf; obtain rfl := set_found l2 l3 hf; rw [HC.out]; clear hf l1 l2 l3)
          | ((with_reducible show OpN); have hse := HS8.out; obtain ⟨Ls, l1, l2, l3⟩ := hse; refine wpList_upd _ rfl (.tmp 81) (.tmp 83) _ 116 9 4 rfl strKeyed setMap w4.heap.size Ls rfl l1 (usC x.1) (.bool true) rfl rfl HKY.out ?_; intro w9 L' h1 h2 h3 h4; have HS9 : Hid (SetB w9 w4.heap.size (((us ++ tk.map (·.1)) ++ (xs.take 0).map (·.1)) ++ [x.1])) := Lib.hid ⟨L', h2, set_stored l2 l3 h1⟩; have HK9 := Lib.hid h3; have HZ9 := Lib.hid h4; clear h1 h2 h3 h4 l1 l2 l3))
         go_roundw
         case rel =>
          have hne : ¬ wx.heap.size = w4.heap.size := by have := HSZ.out; omega
          refine ⟨0 + 1, by omega, by go_num, Lib.hid ?_, Lib.hid (.inr ⟨w4.heap.size, by have := HSZ.out; omega, HMB8.out.kp HK9.out hne, ?_⟩), Lib.hid ?_, Lib.hid ?_⟩
          ·
           intro q hq hqj
           obtain rfl : q = 0 := by omega
           rw [← HXE.out]
           exact HC.out
          ·
           rw [HTK.out, ← List.append_assoc]
           exact HS9.out
          ·
           exact (((Kp.of_below (S := fun _ => False) HBz.out).after HK8.out (fun i hi e => by have := HSZ.out; omega)).after HK9.out (fun i hi e => by have := HSZ.out; omega)).below (Nat.le_refl _) (fun _ h => h.elim)
          ·
           have := HX5.out.size; have := HX6.out.size; have := hkp.out.size; have := HZ8.out; have := HZ9.out; have := hz.out; omega
         case measure => simp [intOf]; omega
     ·
      have HMB := Lib.hid hm
      have HSE := Lib.hid hset
      clear hsn hm hset
      by_cases hc : ((us ++ tk.map (·.1)) ++ (xs.take j).map (·.1)).contains x.1 = true
      ·
       have HC := Lib.hid hc
       have HAF : Hid (addB (us ++ tk.map (·.1)) xs = false) := Lib.hid (addB_no hjl (by rw [← HXE.out]; exact hc))
       clear hc
       go_wp2_with (first
        | ((with_reducible show OpW 46); refine wpList_loadv _ rfl 45 (.tmp 45) rfl 4 (by kernel_rfl) g (o + j * 4) (tokC s i x) rfl HAk.out rfl ?_)
        | ((with_reducible show OpW 9); refine wpList_alloc _ rfl 45 rfl tokZ tokZero ?_; intro w3 a1 a2 a3; have HV3 := Lib.hid a1; have HX3 := Lib.hid a2; clear a1 a2 a3)
        | ((with_reducible show OpN); refine wpList_storev _ rfl 45 (.tmp 9) (.tmp 46) rfl 4 (by kernel_rfl) wy.heap.size 0 _ tokZ (tokC s i x) rfl rfl HV3.out rfl (tokC_one s i x) (by decide) ?_; intro w4 a1 a2 a3; have HV4 : Hid (BL w4 wy.heap.size 45 (tokC s i x)) := Lib.hid a1; have HX4 : Hid (Below wy.heap.size wy w4) := Lib.hid (((Kp.of_below (S := fun _ => False) HX3.out).after a2 (fun i hi e => by omega)).below (Nat.le_refl _) (fun _ h => h.elim)); have q2 := HV4.out.get (j := 2) rfl; clear a1 a2 a3)
        | ((with_reducible show OpW 50); refine wpList_loadv _ rfl 39 (.tmp 49) rfl 2 (by kernel_rfl) wy.heap.size 0 [.string (strB s), .int .i64 i] rfl (At.left (xs := [.string (strB x.1), .string (strB x.2)]) (BL.all HV4.out)) rfl ?_)
        | ((with_reducible show OpW 51); refine wpList_lookok _ rfl (.tmp 48) (.tmp 50) 115 39 116 rfl pidKeyed outMap (.map none) mapZero wx.heap.size _ rfl (HMB.out.kept HX4.out) (pidV s i) rfl HPY.out ?_; intro v f hf; obtain ⟨rfl, rfl⟩ := found_one hf; clear hf)
        | ((with_reducible show OpW 80); have hse := HSE.out.kept HX4.out; obtain ⟨Ls, l1, l2, l3⟩ := hse; refine wpList_look _ rfl (.tmp 77) (.tmp 79) 116 9 4 rfl strKeyed setMap (.bool false) boolZero ib Ls rfl l1 (usC x.1) rfl HKY.out ?_; intro v f hf; obtain rfl := set_found l2 l3 hf; rw [HC.out]; clear hf l1 l2 l3))
       go_ret
       unfold AddRet
       rw [HAF.out]
       exact ⟨rfl, below_thenB hb.out hb.out.size HX4.out⟩
      ·
       have hc' := Bool.eq_false_iff.2 hc
       have HC := Lib.hid hc'
       clear hc hc'
       go_wp2_with (first
        | ((with_reducible show OpW 46); refine wpList_loadv _ rfl 45 (.tmp 45) rfl 4 (by kernel_rfl) g (o + j * 4) (tokC s i x) rfl HAk.out rfl ?_)
        | ((with_reducible show OpW 9); refine wpList_alloc _ rfl 45 rfl tokZ tokZero ?_; intro w3 a1 a2 a3; have HV3 := Lib.hid a1; have HX3 := Lib.hid a2; clear a1 a2 a3)
        | ((with_reducible show OpN); refine wpList_storev _ rfl 45 (.tmp 9) (.tmp 46) rfl 4 (by kernel_rfl) wy.heap.size 0 _ tokZ (tokC s i x) rfl rfl HV3.out rfl (tokC_one s i x) (by decide) ?_; intro w4 a1 a2 a3; have HV4 : Hid (BL w4 wy.heap.size 45 (tokC s i x)) := Lib.hid a1; have HX4 : Hid (Below wy.heap.size wy w4) := Lib.hid (((Kp.of_below (S := fun _ => False) HX3.out).after a2 (fun i hi e => by omega)).below (Nat.le_refl _) (fun _ h => h.elim)); have q2 := HV4.out.get (j := 2) rfl; clear a1 a2 a3)
        | ((with_reducible show OpW 50); refine wpList_loadv _ rfl 39 (.tmp 49) rfl 2 (by kernel_rfl) wy.heap.size 0 [.string (strB s), .int .i64 i] rfl (At.left (xs := [.string (strB x.1), .string (strB x.2)]) (BL.all HV4.out)) rfl ?_)
        | ((with_reducible show OpW 51); refine wpList_lookok _ rfl (.tmp 48) (.tmp 50) 115 39 116 rfl pidKeyed outMap (.map none) mapZero wx.heap.size _ rfl (HMB.out.kept HX4.out) (pidV s i) rfl HPY.out ?_; intro v f hf; obtain ⟨rfl, rfl⟩ := found_one hf; clear hf)
        | ((with_reducible show OpW 80); have hse := HSE.out.kept HX4.out; obtain ⟨Ls, l1, l2, l3⟩ := hse; refine wpList_look _ rfl (.tmp 77) (.tmp 79) 116 9 4 rfl strKeyed setMap (.bool false) boolZero ib Ls rfl l1 (usC x.1) rfl HKY.out ?_; intro v f hf; obtain rfl := set_found l2 l3 hf; rw [HC.out]; clear hf l1 l2 l3)
        | ((with_reducible show OpN); have hse := HSE.out.kept HX4.out; obtain ⟨Ls, l1, l2, l3⟩ := hse; refine wpList_upd _ rfl (.tmp 81) (.tmp 83) _ 116 9 4 rfl strKeyed setMap ib Ls rfl l1 (usC x.1) (.bool true) rfl rfl HKY.out ?_; intro w5 L' h1 h2 h3 h4; have HS5 : Hid (SetB w5 ib (((us ++ tk.map (·.1)) ++ (xs.take j).map (·.1)) ++ [x.1])) := Lib.hid ⟨L', h2, set_stored l2 l3 h1⟩; have HK5 := Lib.hid h3; have HZ5 := Lib.hid h4; clear h1 h2 h3 h4 l1 l2 l3))
       go_roundw
       case rel =>
        have hne : ¬ wx.heap.size = ib := by have := HZ1.out; omega
        refine ⟨j + 1, by omega, by go_num, Lib.hid ?_, Lib.hid (.inr ⟨ib, hib, (HMB.out.kept HX4.out).kp HK5.out hne, ?_⟩), Lib.hid ?_, Lib.hid ?_⟩
        ·
         intro q hq hqj
         by_cases hqe : q < j
         ·
          exact hd.out q hq hqe
         ·
          obtain rfl : q = j := by omega
          rw [← HXE.out]
          exact HC.out
        ·
         rw [HTK.out, ← List.append_assoc]
         exact HS5.out
        ·
         exact ((Kp.of_below (S := fun _ => False) (below_thenB hb.out hb.out.size HX4.out)).after HK5.out (fun i hi e => by have := HZ1.out; have := HK0.out; omega)).below (Nat.le_refl _) (fun _ h => h.elim)
        ·
         have := HX4.out.size; have := HZ5.out; have := hz.out; omega
       case measure => simp [intOf]; omega
    ·
     obtain rfl : j = k := by omega
     have HAT : Hid (addB (us ++ tk.map (·.1)) xs = true) := Lib.hid (addB_yes (fun q hq => hd.out q hq (by rw [HX.out.1] at hq; exact hq)))
     clear hd hsn hz
     obtain ⟨sz, hsz⟩ : ∃ sz, sz = tk.length + us.length := ⟨_, rfl⟩
     have HSZN := Lib.hid hsz
     obtain ⟨fz, hfz⟩ : ∃ fz, fz = 4096 - sz := ⟨_, rfl⟩
     have hfw : IntKind.i64.wrap (4096 - (sz : Int)) = (fz : Int) := by
      have := HN.out
      rw [show (4096 : Int) - (sz : Int) = (fz : Int) by omega]
      exact IntWalk.i64_in _ (by omega)
     have hgt : decide ((fz : Int) < (j : Int)) = false := decide_eq_false (by have := HN.out; omega)
     have hgt2 : ¬ fz < j := by have := HN.out; omega
     have HPy := Lib.hid (HP.out.kept hb.out)
     clear hsz hfz
     go_wp2_with (first
      | (go_at_call 40; refine (size_any wy gp gm s i tv uv tk us HPy.out).mono ?_; rintro e w5 ⟨rfl, b1⟩; rw [← HSZN.out]; have HB5 := Lib.hid (below_thenB hb.out hb.out.size b1); have HP5 := Lib.hid (HPy.out.kept b1); have q0 := HP5.out.p.get (j := 0) rfl; clear b1)
      | ((with_reducible show OpW 95); refine wpList_run _ rfl _ _ (exec_eqMap (x := .tmp 94) (gm := gm) rfl rfl) ?_))
     have HTF : Hid (∀ q g o, q < j → A = some ⟨g, o, none⟩ → g < w.heap.size) := Lib.hid (fun q g o hq e => by
      obtain ⟨g', o', e', hat⟩ := HX.out.2.2.2 q (by rw [HX.out.1]; exact hq)
      rw [e] at e'
      cases e'
      have := hat 0 _ rfl
      have h1 := cell_lt this
      exact h1)
     have hk5 := HB5.out
     clear hfw hgt hgt2 q0
     go_loopw [102] (fun iv wr => ∃ q : Nat, q ≤ j ∧ iv = .int .i64 (q : Int) ∧ ∃ tv', Hid (PQ wr gp gm s i tv' uv (tk ++ xs.take q) us) ∧ Hid (Kp (PB gm tv uv) w wr) ∧ Hid (∀ b, PB gm tv' uv b → PB gm tv uv b ∨ w.heap.size ≤ b)) (fun iv _ => j - (intOf iv).toNat)
     case atStart => exact ⟨0, by omega, rfl, tv, Lib.hid (by rw [List.take_zero, List.append_nil]; exact HP5.out), Lib.hid (Kp.of_below HB5.out), Lib.hid (fun b hb => .inl hb)⟩
     case round =>
      obtain ⟨q, hq, rfl, tv', hp, hkw, how⟩ := hrel
      obtain ⟨wz, hwz⟩ : ∃ x, x = wr := ⟨_, rfl⟩
      rw [← hwz] at hp hkw ⊢
      clear hwz
      by_cases hlt3 : q < j
      ·
       have hql : q < xs.length := by rw [HX.out.1]; exact hlt3
       obtain ⟨g, o, rfl, hat⟩ := HX.out.2.2.2 q hql
       have HAk := Lib.hid (hat.kp hkw.out (HFAR.out _ rfl))
       have HTK : Hid (xs.take (q + 1) = xs.take q ++ [xs[q]]) := Lib.hid (List.take_succ_eq_append_getElem hql)
       obtain ⟨x, hx⟩ : ∃ x, x = xs[q] := ⟨_, rfl⟩
       rw [← hx] at HAk HTK
       have HID2 := HID.out
       simp only [idB, Bool.and_eq_true, decide_eq_true_eq] at HID2
       have HIW : (Lit.int .i64 i).wf = true := by
        have m1 : IntKind.i64.min = -9223372036854775808 := rfl
        have m2 : IntKind.i64.max = 9223372036854775807 := rfl
        simp only [Lit.wf, Bool.and_eq_true, decide_eq_true_eq]
        exact ⟨by omega, by omega⟩
       have HPY := Lib.hid (keyPid s i (by omega) HIW)
       clear hat hx HID2 HIW
       obtain ⟨A', c', rfl, hc'⟩ := hp.out.st.t.form
       obtain ⟨m', hm'⟩ : ∃ m', m' = (tk ++ xs.take q).length := ⟨_, rfl⟩
       rw [← hm'] at hp how
       obtain ⟨tvv, htv⟩ : ∃ v, v = Value.slice A' m' c' := ⟨_, rfl⟩
       have HTV := Lib.hid htv
       rw [← htv] at hp how
       clear hc' htv
       have HMM := Lib.hid hm'
       clear hm'
       have HML : Hid (m' ≤ 4096) := Lib.hid (by rw [HMM.out, List.length_append, List.length_take]; have := HN.out; omega)
       have HO : Hid (∀ v ∈ [tvv, uv], v.oneCell' = true) := Lib.hid (by
        obtain ⟨A2, c2, x2, _⟩ := hp.out.st.u.form
        intro v hv
        simp only [List.mem_cons, List.not_mem_nil, or_false] at hv
        rcases hv with rfl | rfl
        ·
         rw [HTV.out]; rfl
        ·
         rw [x2]; rfl)
       go_wp2_with (first
        | ((with_reducible show OpW 105); refine wpList_loadv _ rfl 45 (.tmp 104) rfl 4 (by kernel_rfl) g (o + q * 4) (tokC s i x) rfl HAk.out rfl ?_)
        | ((with_reducible show OpW 15); refine wpList_alloc _ rfl 45 rfl tokZ tokZero ?_; intro w3 a1 a2 a3; have HV3 := Lib.hid a1; have HX3 := Lib.hid a2; clear a1 a2 a3)
        | ((with_reducible show OpN); refine wpList_storev _ rfl 45 (.tmp 15) (.tmp 105) rfl 4 (by kernel_rfl) wz.heap.size 0 _ tokZ (tokC s i x) rfl rfl HV3.out rfl (tokC_one s i x) (by decide) ?_; intro w4 a1 a2 a3; have HV4 : Hid (BL w4 wz.heap.size 45 (tokC s i x)) := Lib.hid a1; have HX4 : Hid (Below wz.heap.size wz w4) := Lib.hid (((Kp.of_below (S := fun _ => False) HX3.out).after a2 (fun i hi e => by omega)).below (Nat.le_refl _) (fun _ h => h.elim)); clear a1 a2 a3))
       have HP4 := Lib.hid (hp.out.kept HX4.out)
       obtain ⟨L, hm, hL⟩ := hp.out.m
       have HM4 := Lib.hid (hm.kept HX4.out)
       have HMz := Lib.hid hm
       have HL := Lib.hid hL
       clear hm hL
       have HC4 : Hid (∀ w', Below w4.heap.size w4 w' → w'.cell? ⟨gp, 0, none⟩ = some (.map (some gm)) ∧ Below w4.heap.size w4 w') := Lib.hid (fun w' hb => ⟨(HP4.out.kept hb).p.get (j := 0) rfl, hb⟩)
       refine Text.wp_region_text (fun w' => w'.cell? ⟨gp, 0, none⟩ = some (.map (some gm)) ∧ Below w4.heap.size w4 w') [(0, 4), (1, 4), (2, 4), (4, 4), (3, 0), (5, 0), (6, 0), (7, 2), (8, 2)] (by kernel_rfl) (by kernel_rfl) (fun _ _ _ _ _ h => h) (HC4.out _ (Below.refl _ _).drew) ?_
       iterate 4 (refine Text.purek rfl rfl (fun K hK => ⟨_, fun w' => by go_simp <;> rfl, ?_⟩); go_simp; refine hK _ ?_; clear hK K)
       (refine Text.heldk rfl rfl (fun K hK => ⟨_, fun w' hw' => by go_simp <;> rfl, ?_⟩); go_simp; refine hK _ ?_; clear hK K)
       refine Text.heldk rfl rfl (fun K hK => ?_)
       refine ⟨_, fun w' hw' => exec_loadv 39 (.tmp 110) rfl 2 (by kernel_rfl) wz.heap.size 0 [.string (strB s), .int .i64 i] rfl (At.left (xs := [.string (strB x.1), .string (strB x.2)]) (BL.all (HV4.out.kept hw'.2))) rfl, ?_⟩
       go_simp
       refine hK _ ?_
       clear hK K
       refine Text.heldk rfl rfl (fun K hK => ?_)
       refine ⟨_, fun w' hw' => exec_look (.tmp 109) (.tmp 111) 92 39 80 rfl pidKeyed stMap (stV nilV nilV) stZero gm L rfl (HM4.out.kept hw'.2) (pidV s i) rfl HPY.out (stV tvv uv) (fun v f hf => PQ.found HL.out hf), ?_⟩
       go_simp
       refine hK _ ?_
       clear hK K
       refine Text.eff rfl rfl (fun K hK => ?_)
       refine wp_alloc 80 rfl [nilV, nilV] stZero' ?_
       intro w5a a1 a2 a3
       have HS5 := Lib.hid a1
       have HX5 : Hid (Below w4.heap.size w4 w5a) := Lib.hid (below_then (Below.refl _ _).drew (a2.mono (Nat.le_refl _)))
       have HZ5 : Hid (w5a.heap.size = w4.heap.size + 1) := Lib.hid a3
       refine hK _ _ (HC4.out _ HX5.out) ?_
       clear hK K a1 a2 a3
       refine Text.eff rfl rfl (fun K hK => ?_)
       refine wp_storev 80 (.tmp 16) (.tmp 112) rfl 2 (by kernel_rfl) w4.heap.size 0 _ [nilV, nilV] [tvv, uv] rfl rfl HS5.out rfl HO.out (by decide) ?_
       intro w6 a1 a2 a3
       have HS6 : Hid (BL w6 w4.heap.size 80 [tvv, uv]) := Lib.hid a1
       have HX6 : Hid (Below w4.heap.size w4 w6) := Lib.hid (((Kp.of_below (S := fun _ => False) HX5.out).after a2 (fun i hi e => by omega)).below (Nat.le_refl _) (fun _ h => h.elim))
       have HZ6 : Hid (w6.heap.size = w4.heap.size + 1) := Lib.hid (by rw [a3]; exact HZ5.out)
       refine hK _ _ (HC4.out _ HX6.out) ?_
       clear hK K a1 a2 a3
       refine Text.done ?_
       have q0 := HS6.out.get (j := 0) rfl
       have HV6 := Lib.hid (HV4.out.kept HX6.out)
       have q2 := HV6.out.get (j := 2) rfl
       have q3 := HV6.out.get (j := 3) rfl
       have HT6 : Hid (RW w6 109 2 tvv m' ((tk ++ xs.take q).flatMap scC)) := Lib.hid (by have := (HP4.out.kept HX6.out).st.t; rw [← HMM.out] at this; exact this)
       go_wp2_with (first
        | ((with_reducible show OpW 120); refine wpList_bslice _ rfl 78 109 1 _ rfl #[(0, .agg #[.string (strB x.1), .string (strB x.2)])] (by rw [List.map_toArray]; rfl) (scC x) (bslSec x.1 x.2 _) ?_; intro w7 a1 a2 a3; have HG7 := Lib.hid a1; have HX7 := Lib.hid a2; have HZ7 := Lib.hid a3; have HT7 := Lib.hid (HT6.out.kept a2); have HS7 := Lib.hid (HS6.out.kept a2); clear a1 a2 a3)
        | ((with_reducible show OpW 121); obtain ⟨iS, i1, i2, i3, i4⟩ := info_some infoSec; refine wpList_appRW _ rfl (.tmp 114) (.tmp 120) 78 109 2 iS _ rfl Tryz.underlying78 i1 i2 i3 rfl tvv m' _ rfl HT7.out w6.heap.size (scC x) rfl HG7.out rfl (scC_one x) (by rw [i4]; have := HML.out; omega) (by have := HML.out; omega) ?_; intro tv2 w8 a1; have HR8 := Lib.hid a1; have HS8 := Lib.hid (HS7.out.kp a1.kp (fun hb => by have h1 := hp.out.lt (.inr (.inl hb)); have h2 := HX4.out.size; omega)); clear a1 i1 i2 i3 i4)
        | ((with_reducible show OpN); refine wpList_store1 _ rfl 78 (.tmp 122) (.tmp 121) rfl (one_size _ (by kernel_rfl)) w4.heap.size 0 80 _ tv2 rfl rfl HS8.out (by obtain ⟨A2, c2, e2, _⟩ := HR8.out.row.form; rw [e2]; rfl) (by obtain ⟨A2, c2, e2, _⟩ := HR8.out.row.form; rw [e2]; rfl) (by simp) ?_; intro w9 a1 a2 a3; have HS9 : Hid (BL w9 w4.heap.size 80 [tv2, uv]) := Lib.hid a1; have HK9 := Lib.hid a2; have HZ9 := Lib.hid a3; clear a1 a2 a3 q0 q2 q3))
       have HLT : Hid (∀ b, tvv.ownBlock = some b → b < wz.heap.size) := Lib.hid (fun b hb => hp.out.lt (.inr (.inl hb)))
       have HW4 : Hid (wz.heap.size < w4.heap.size) := Lib.hid HV4.out.lt
       have HB7 : Hid (Below wz.heap.size wz w7) := Lib.hid (below_thenB (below_thenB HX4.out HX4.out.size HX6.out) (by have := HX4.out.size; have := HX6.out.size; omega) HX7.out)
       have HKZ : Hid (Kp (fun b => tvv.ownBlock = some b) wz w9) := Lib.hid (((Kp.of_below HB7.out).after HR8.out.kp (fun i hi e => e)).after HK9.out (fun i hi e => by have := HW4.out; omega))
       have HKV : Hid (Kp (fun b => tvv.ownBlock = some b ∨ b = w4.heap.size) w7 w9) := Lib.hid (((Kp.refl _ w7).after HR8.out.kp (fun i hi e => .inl e)).after HK9.out (fun i hi e => .inr e))
       have HV9 := Lib.hid ((HV6.out.kept HX7.out).kp HKV.out (fun e => e.elim (fun e => by have := HLT.out _ e; omega) (fun e => by have := HW4.out; omega)))
       have HP9 := Lib.hid (hp.out.p.kp HKZ.out (fun e => hp.out.gp_not (.inr (.inl e))))
       have HM9 := Lib.hid (HMz.out.kp HKZ.out (fun e => hp.out.gm_tv e))
       have HU9 := Lib.hid (hp.out.st.u.kp HKZ.out (fun b hb e => hp.out.tv_uv e hb))
       have HR9 := Lib.hid (HR8.out.row.kp HK9.out (fun b hb e => (HR8.out.own b hb).elim (fun h1 => by have := HLT.out _ h1; have := HW4.out; omega) (fun h1 => by have := HZ7.out; have := HZ6.out; omega)))
       have HC9 : Hid (∀ w', Below w9.heap.size w9 w' → w'.cell? ⟨gp, 0, none⟩ = some (.map (some gm)) ∧ Below w9.heap.size w9 w') := Lib.hid (fun w' hb => ⟨(HP9.out.kept hb).get (j := 0) rfl, hb⟩)
       refine Text.wp_region_text (fun w' => w'.cell? ⟨gp, 0, none⟩ = some (.map (some gm)) ∧ Below w9.heap.size w9 w') [(0, 4), (1, 4), (2, 4), (4, 4), (3, 0), (5, 0), (6, 0), (7, 3)] (by kernel_rfl) (by kernel_rfl) (fun _ _ _ _ _ h => h) (HC9.out _ (Below.refl _ _).drew) ?_
       iterate 4 (refine Text.purek rfl rfl (fun K hK => ⟨_, fun w' => by go_simp <;> rfl, ?_⟩); go_simp; refine hK _ ?_; clear hK K)
       (refine Text.heldk rfl rfl (fun K hK => ⟨_, fun w' hw' => by go_simp <;> rfl, ?_⟩); go_simp; refine hK _ ?_; clear hK K)
       refine Text.heldk rfl rfl (fun K hK => ?_)
       refine ⟨_, fun w' hw' => exec_loadv 39 (.tmp 127) rfl 2 (by kernel_rfl) wz.heap.size 0 [.string (strB s), .int .i64 i] rfl (At.left (xs := [.string (strB x.1), .string (strB x.2)]) (BL.all (HV9.out.kept hw'.2))) rfl, ?_⟩
       go_simp
       refine hK _ ?_
       clear hK K
       refine Text.heldk rfl rfl (fun K hK => ?_)
       refine ⟨_, fun w' hw' => exec_loadv 80 (.tmp 16) rfl 2 (by kernel_rfl) w4.heap.size 0 [tv2, uv] rfl (BL.all (HS9.out.kept hw'.2)) rfl, ?_⟩
       go_simp
       refine hK _ ?_
       clear hK K
       refine Text.last rfl rfl (fun K hK => ?_)
       refine wp_upd (.tmp 126) (.tmp 128) (.tmp 129) 92 39 80 rfl pidKeyed stMap gm L rfl HM9.out.drew (pidV s i) (stV tv2 uv) rfl rfl HPY.out ?_
       intro w10 L' h1 h2 h3 h4
       obtain rfl := PQ.stored HL.out h1
       have HM10 := Lib.hid h2
       have HK10 : Hid (Kp (· = gm) w9 w10) := Lib.hid ((Kp.refl _ w9).drew.trans h3)
       refine hK _ _ ?_
       clear hK K h1 h2 h3 h4
       refine Text.done ?_
       go_wp2_with fail
       go_roundw
       case rel =>
        have hgg : gp ≠ gm := fun e => hp.out.gp_not (.inl e)
        have h2n : ∀ b, tv2.ownBlock = some b → tvv.ownBlock = some b ∨ wz.heap.size ≤ b := fun b hb => (HR8.out.own b hb).imp id (fun h1 => by have := HB7.out.size; omega)
        have hgz : gm < wz.heap.size := hp.out.lt (.inl rfl)
        have RT := HR9.out.kp HK10.out (fun b hb e => (h2n b hb).elim (fun h1 => hp.out.gm_tv (by subst e; exact h1)) (fun h1 => by omega))
        have RU := HU9.out.kp HK10.out (fun b hb e => hp.out.gm_uv (by subst e; exact hb))
        have e2 : m' + 1 = (tk ++ xs.take (q + 1)).length := by rw [HTK.out, ← List.append_assoc, List.length_append, HMM.out]; rfl
        have e3 : (tk ++ xs.take q).flatMap scC ++ scC x = (tk ++ xs.take (q + 1)).flatMap scC := by rw [HTK.out, ← List.append_assoc, List.flatMap_append (xs := tk ++ xs.take q)]; simp
        rw [e2, e3] at RT
        refine ⟨q + 1, by omega, by go_num, tv2, Lib.hid ⟨HP9.out.kp HK10.out hgg, ⟨RT, RU, by rw [← e2]; have := HML.out; omega, hp.out.st.bu⟩, _, HM10.out, .inr rfl⟩, Lib.hid ?_, Lib.hid ?_⟩
        ·
         exact hkw.out.after (((HKZ.out.mono (S' := PB gm tvv uv) (fun _ _ h => .inr (.inl h))).after HK10.out (fun _ _ e => .inl e))) (fun b hb h => (how.out b h).elim id (fun h1 => by omega))
        ·
         rintro b (rfl | hb | hb)
         ·
          exact .inl (.inl rfl)
         ·
          exact (h2n b hb).elim (fun h1 => how.out b (.inr (.inl h1))) (fun h1 => .inr (Nat.le_trans hkw.out.size h1))
         ·
          exact .inl (.inr (.inr hb))
       case measure => simp [intOf]; omega
      ·
       obtain rfl : q = j := by omega
       go_wp2_with fail
       go_ret
       unfold AddRet
       rw [HAT.out]
       have hp2 := hp.out
       have ex : xs.take q = xs := by rw [← HX.out.1, List.take_length]
       rw [ex] at hp2
       exact ⟨rfl, tv', hp2, hkw.out, how.out⟩
end Go.Proofs.YtheijpjfpaghfaaGreatDoor
