/- Several texts in one: Be, Bf. -/
import Derived.Test.YtfcakjpljjnjnaaGreatDoorC28
import Derived.Test.YtfcakjpljjnjnaaGreatDoorC37
/- stripe.code. -/
namespace Go.Proofs.YtfcakjpljjnjnaaGreatDoor
open Go Go.RowKit Gf Sha

/-- The pieces of rows. -/
def sumsL (rows : List (List UInt8)) : List (List UInt8) := rows.map psum
def pieN (rows : List (List UInt8)) (i : Nat) : Pe := ⟨rt (sumsL rows), (i : Int), gR rows i, sumsL rows⟩
def pcsL (rows : List (List UInt8)) : List Pe := (List.range rows.length).map (pieN rows)
theorem pcsL_succ (rows : List (List UInt8)) (k : Nat) : (List.range (k + 1)).map (pieN rows) = (List.range k).map (pieN rows) ++ [pieN rows k] := by
 rw [List.range_succ, List.map_append]; rfl
theorem sums_succ {rows : List (List UInt8)} {k : Nat} (h : k < rows.length) : (rows.take (k + 1)).map psum = (rows.take k).map psum ++ [psum (gR rows k)] := by
 rw [List.take_add_one, List.getElem?_eq_getElem h, List.map_append, gR_eq h]; rfl
theorem psum_len {x : List UInt8} (h : x.length ≤ 65536) : (psum x).length = 32 := by
 unfold psum
 exact rt_length (lvsK_lv _ _ _) (by rw [lvsK_length]; exact Nat.le_add_left 1 _) (by rw [lvsK_length]; unfold nb; omega)
theorem sums_lv {rows : List (List UInt8)} (h : ∀ x ∈ rows, x.length ≤ 65536) : Lv (sumsL rows) := fun s hs => by
 obtain ⟨x, hx, rfl⟩ := List.mem_map.1 hs
 exact psum_len (h x hx)
theorem rect_le {rows : List (List UInt8)} {L : Nat} (h : Rect rows L) (hL : L ≤ 65536) : ∀ x ∈ rows, x.length ≤ 65536 := fun x hx => by
 obtain ⟨k, hk, rfl⟩ := List.getElem_of_mem hx
 have := h k hk
 rw [gR_eq hk] at this
 omega
theorem wfI_of {z : Int} (h1 : -9223372036854775808 ≤ z) (h2 : z < 9223372036854775808) : wfI z := by
 unfold wfI
 simp [Lit.wf, IntKind.min, IntKind.max, IntKind.signed, IntKind.bits] <;> omega
theorem rencM_rect (d t : Nat) (m : List (List UInt8)) (L : Nat) : Rect (rencM d t m L) L := fun i hi => by
 have hi' : i < t := by simpa [rencM] using hi
 rw [gR_eq hi]
 simp [rencM, pcR_length]
theorem pieC_eq (rows : List (List UInt8)) (j : Nat) (A : Option Addr) (n c : Nat) (B : Option Addr) (m d : Nat) : peC (pieN rows j) A n c B m d = [.string (strB (rt (sumsL rows))), .int .i64 (j : Int), .slice A n c, .slice B m d] := rfl
theorem OLn.low {α : Type} {R : Rdg α} {s base b' : Nat} {te : TypeId} {w : World} {v : Value} {L : List α} (h : OLn R s te base w v L) (hb : b' ≤ base) : OLn R s te b' w v L :=
 let ⟨css, h1, h2, h3, h4, h5⟩ := h; ⟨css, h1, h2, h3, h4, fun b e => Nat.le_trans hb (h5 b e)⟩
theorem reach32 : 32 ≤ reachBytes := by unfold reachBytes; decide
theorem pie_stay {rows : List (List UInt8)} {j n m : Nat} {w : World} {b1 b2 base : Nat} {v : Value} {L : List Pe} {A : Option Addr} {c : Nat} {B : Option Addr} {d : Nat} (hv : OLn rPe 4 48 base w v L) (h1 : OwnB w b1 (.slice A n c) n (gR rows j)) (h2 : OwnS w b2 (.slice B m d) m (sumsL rows))
  (hn : n ≤ 1000000) (hm : m ≤ 100) (hid : (rt (sumsL rows)).length = 32) (hj : j ≤ 1000) : ∀ w', Kp (fun b => v.ownBlock = some b) w w' → rPe w' (peC (pieN rows j) A n c B m d) (pieN rows j) :=
 pe_stay (y := pieN rows j) hv h1 h2 (by unfold lim; omega) (by unfold lim; omega) (Nat.le_trans (Nat.le_of_eq hid) reach32) (wfI_of (by show -9223372036854775808 ≤ (j : Int); omega) (by show (j : Int) < 9223372036854775808; omega))
section
set_option maxRecDepth 100000
set_option maxHeartbeats 1000000
theorem scode_any (d t n c : Nat) (A : Option Addr) (blocks : List (List UInt8)) (L : Nat) (w : World) (hd : 1 ≤ d) (hd8 : d ≤ 8) (hdt : d ≤ t) (ht : t ≤ 16) (h : MS w A n c blocks) (hn : 0 < n) (hnd : n ≤ d) (hone : e8oneB blocks = true) (hr : Rect blocks L) (hL0 : (gR blocks 0).length = L) (hL1 : 1 ≤ L) (hL6 : L ≤ 65536) (hT : Tabs w) :
  Calls Tryz.prog 34 #[.int .i64 (d : Int), .int .i64 (t : Int), .slice A n c] w fun e w' => ∃ v, e = .returned (.tuple #[.string (strB (rt (sumsL (encM d t blocks L)))), v, .int .i64 0]) ∧ OLn rPe 4 48 w.heap.size w' v (pcsL (encM d t blocks L)) ∧ Below w.heap.size w w' := by
 have HE := Lib.hid (encode_ok d t n c A blocks L w hd hd8 hdt ht h hn hnd hone hL0)
 have heq := encM_eq (t := t) hr (by rw [h.1]; exact hnd : blocks.length ≤ d)
 obtain ⟨rows, hrows⟩ : ∃ z, z = encM d t blocks L := ⟨_, rfl⟩
 rw [← hrows] at heq HE ⊢
 have hlen : rows.length = t := by rw [heq]; simp [rencM]
 have hrect : Rect rows L := by rw [heq]; exact rencM_rect _ _ _ _
 have HLEN := Lib.hid hlen
 have HRC := Lib.hid hrect
 have HT := Lib.hid hT
 have h1t : 1 ≤ t := by omega
 have hlv9 := sums_lv (rect_le hrect hL6)
 have HLv : Hid (Lv (sumsL rows)) := Lib.hid hlv9
 have HIDL : Hid ((rt (sumsL rows)).length = 32) := Lib.hid (rt_length hlv9 (by unfold sumsL; rw [List.length_map, hlen]; exact h1t) (by unfold sumsL; rw [List.length_map, hlen]; omega))
 clear h hone hr hL0 heq hrows hlen hrect hT hlv9
 obtain ⟨RT, hRT⟩ : ∃ z, z = rt (sumsL rows) := ⟨_, rfl⟩
 have HRT := Lib.hid hRT
 rw [← hRT]
 clear hRT
 go_enter Tryz.func34, Tryz.ntmps34
 go_wp2_with (first
  | (go_at_call 59; refine HE.out.mono ?_; rintro e9 w1 ⟨v1, rfl, hnew⟩; obtain ⟨g1, n1, rfl, hn1, hm1, b1⟩ := hnew.ms (by rw [HLEN.out]; unfold lim; omega); rw [HLEN.out] at hn1; subst hn1; have HM1 := Lib.hid hm1; have HB1 := Lib.hid b1; clear hnew hm1 b1))
 go_loopw [11, 32] (fun v iv wr => ∃ k : Nat, k ≤ t ∧ iv = .int .i64 (k : Int) ∧ Hid (OwnS wr w1.heap.size v k ((rows.take k).map psum)) ∧ Hid (Below w1.heap.size w1 wr)) (fun _ iv _ => t - (intOf iv).toNat)
 case atStart => exact ⟨0, by omega, rfl, Lib.hid ⟨RW.nil _ _ _, fun b hb => by cases hb⟩, Lib.hid (Below.refl _ _)⟩
 case round =>
  obtain ⟨k, hk, rfl, ho, hb⟩ := hrel
  obtain ⟨wx, hwx⟩ : ∃ x, x = wr := ⟨_, rfl⟩
  rw [← hwx] at ho hb ⊢
  clear hwx
  by_cases hlt : k < t
  ·
   obtain ⟨g, o, A', n', c', ea, q0, hbs⟩ := (HM1.out.kept hb.out).2.2.2 k hlt
   have hnL : n' = L := by rw [← hbs.1]; exact HRC.out k (by rw [HLEN.out]; exact hlt)
   have HBS := Lib.hid hbs
   have HN := Lib.hid (sums_succ (rows := rows) (k := k) (by rw [HLEN.out]; exact hlt))
   have HTx := Lib.hid (HT.out.kept (below_then HB1.out hb.out))
   cases ea
   rw [Nat.zero_add] at q0
   subst hnL
   clear hbs
   go_wp2_with (first
    | (go_at_call 60; refine (of512_any A' n' c' (gR rows k) wx HBS.out HTx.out (by omega) (by omega)).mono ?_; rintro e9 w3 ⟨rfl, r2⟩; have HB3 := Lib.hid r2; have HO3 := Lib.hid (ho.out.kept' r2); clear r2)
    | ((with_reducible show OpW 46); refine wpList_bslice _ rfl 46 9 1 _ rfl #[(0, .string (strB (psum (gR rows k))))] (by rw [List.map_toArray]; rfl) [.string (strB (psum (gR rows k)))] (bslS _ _) ?_; intro w6 a1 a2 a3; have HG6 := Lib.hid a1; have HX6 : Hid (Below w3.heap.size w3 w6) := Lib.hid a2; clear a1 a2 a3)
    | ((with_reducible show OpW 47); refine wpList_pushS rfl (.tmp 44) (.tmp 46) rfl w1.heap.size _ k _ rfl (HO3.out.kept' HX6.out) (by have := hb.out.size; have := HB3.out.size; have := HX6.out.size; omega) w3.heap.size (psum (gR rows k)) rfl HG6.out (by omega) ?_; intro v' w7 a1 a2; rw [← HN.out] at a1; have HO7 := Lib.hid a1; have HB7 : Hid (Below w1.heap.size w1 w7) := Lib.hid (low_kp (below_then (below_then hb.out HB3.out) HX6.out) a2 (fun i hi e => by have := ho.out.2 i e; omega)); clear a1 a2))
   go_roundw
   case rel => exact ⟨k + 1, by omega, by go_num, HO7, HB7⟩
   case measure => simp [intOf]; omega
  ·
   obtain rfl : k = t := by omega
   have e9 : rows.take k = rows := List.take_of_length_le (by rw [HLEN.out]; exact Nat.le_refl _)
   rw [e9] at ho
   have ho' : OwnS wx w1.heap.size _ k (sumsL rows) := ho.out
   obtain ⟨As, cs9, ev, _⟩ := ho'.1.form
   subst ev
   have HOS := Lib.hid ho'
   have HTS : Hid (TS wx As k cs9 (sumsL rows)) := Lib.hid (TS.of_rw ho'.1 (by unfold lim; omega))
   have HTx := Lib.hid (HT.out.kept (below_then HB1.out hb.out))
   have HMx := Lib.hid (HM1.out.kept hb.out)
   have HBx := Lib.hid (below_then HB1.out hb.out)
   clear ho ho' hlt e9
   go_wp2_with (first
    | (go_at_call 61; refine (mroot_any k k As cs9 (sumsL rows) wx (Nat.le_refl _) HTS.out HTx.out (by omega) (by omega) HLv.out).mono ?_; rintro e9 w8 ⟨rfl, r2⟩; rw [← HRT.out]; have HB8 := Lib.hid (below_then HBx.out r2); have HM8 := Lib.hid (HMx.out.kept r2); have HO8 := Lib.hid (HOS.out.kept' r2); clear r2))
   go_loopw [17, 53] (fun v iv wr => ∃ j : Nat, j ≤ k ∧ iv = .int .i64 (j : Int) ∧ Hid (OLn rPe 4 48 w8.heap.size wr v ((List.range j).map (pieN rows))) ∧ Hid (Below w8.heap.size w8 wr)) (fun _ iv _ => k - (intOf iv).toNat)
   case atStart => exact ⟨0, by omega, rfl, Lib.hid ⟨[], rfl, (fun _ h => by cases h), (fun _ _ k h => absurd h (by simp)), RW.nil _ _ _, (fun b hb => by cases hb)⟩, Lib.hid (Below.refl _ _)⟩
   case round =>
    obtain ⟨j, hj, rfl, ho, hb2⟩ := hrel
    obtain ⟨wy, hwy⟩ : ∃ x, x = wr := ⟨_, rfl⟩
    rw [← hwy] at ho hb2 ⊢
    clear hwy
    by_cases hl2 : j < k
    ·
     obtain ⟨g, o, A', n', c', ea, q0, hbs⟩ := (HM8.out.kept hb2.out).2.2.2 j hl2
     have hnL : n' = L := by rw [← hbs.1]; exact HRC.out j (by rw [HLEN.out]; exact hl2)
     have HBS := Lib.hid hbs
     have HOSy := Lib.hid (HO8.out.kept' hb2.out)
     have HN := Lib.hid (pcsL_succ rows j)
     cases ea
     rw [Nat.zero_add] at q0
     subst hnL
     clear hbs
     go_wp2_with (first
      | ((with_reducible show OpW 61); refine wpList_build _ rfl 31 _ rfl #[(0, .string (strB RT)), (1, .int .i64 (j : Int))] (by rw [List.map_toArray]; rfl) (.agg [.string (strB RT), .int .i64 (j : Int)].toArray) (bldPid _ _ _) ?_)
      | (go_at_call 62; refine (cloneB_any A' n' c' (gR rows j) wy HBS.out (by omega) (by omega)).mono ?_; rintro e9 wa ⟨vb, rfl, r1, r2⟩; obtain ⟨Ab, cb, eb, _⟩ := r1.1.form; subst eb; have HCa := Lib.hid r1; have HBa := Lib.hid r2; have HSa := Lib.hid (HOSy.out.kept' r2); have HOa := Lib.hid (ho.out.kept r2); clear r1 r2)
      | (go_at_call 63; refine (clone_any wa _ (sumsL rows) k HSa.out.1 (by omega)).mono ?_; rintro e9 wb ⟨vs, rfl, r1, r2⟩; obtain ⟨Ac, cc, eb, _⟩ := r1.1.form; subst eb; have HDb := Lib.hid r1; have HBb := Lib.hid (below_then HBa.out r2); have HCb := Lib.hid (HCa.out.kept r2); have HOb := Lib.hid (HOa.out.kept r2); clear r1 r2)
      | ((with_reducible show OpW 66); refine wpList_build _ rfl 48 _ rfl #[(0, .agg [.string (strB RT), .int .i64 (j : Int)].toArray), (1, .slice Ab n' cb), (2, .slice Ac k cc)] (by rw [List.map_toArray]; rfl) (.agg [.string (strB RT), .int .i64 (j : Int), .slice Ab n' cb, .slice Ac k cc].toArray) (by exact bldPe RT (j : Int) Ab n' cb Ac k cc _) ?_)
      | ((with_reducible show OpW 67); refine wpList_bslice _ rfl 27 48 1 _ rfl #[(0, .agg [.string (strB RT), .int .i64 (j : Int), .slice Ab n' cb, .slice Ac k cc].toArray)] (by rw [List.map_toArray]; rfl) [.string (strB RT), .int .i64 (j : Int), .slice Ab n' cb, .slice Ac k cc] (by exact bslPe RT (j : Int) Ab n' cb Ac k cc _) ?_; intro w6 a1 a2 a3; have HG6 : Hid (BL w6 wb.heap.size 48 (peC (pieN rows j) Ab n' cb Ac k cc)) := Lib.hid (by rw [pieC_eq, ← HRT.out]; exact a1); have HX6 : Hid (Below wb.heap.size wb w6) := Lib.hid a2; clear a1 a2 a3)
      | ((with_reducible show OpW 68); refine wpList_pushPe rfl (.tmp 58) (.tmp 67) rfl w8.heap.size _ _ rfl (HOb.out.kept HX6.out) (by have := hb2.out.size; have := HBb.out.size; have := HX6.out.size; omega) wb.heap.size (pieN rows j) Ab n' cb Ac k cc rfl HG6.out (pie_stay (HOb.out.kept HX6.out) (HCb.out.kept HX6.out) (HDb.out.kept' HX6.out) (by omega) (by omega) HIDL.out (by omega)) (by rw [List.length_map, List.length_range]; omega) ?_; intro v' w7 a1 a2; rw [← HN.out] at a1; have HO7 := Lib.hid a1; have HB7 : Hid (Below w8.heap.size w8 w7) := Lib.hid (low_kp (below_then (below_then hb2.out HBb.out) HX6.out) a2 (fun i hi e => by obtain ⟨_, _, _, _, _, h5⟩ := ho.out; have := h5 i e; omega)); clear a1 a2))
     go_roundw
     case rel => exact ⟨j + 1, by omega, by go_num, HO7, HB7⟩
     case measure => simp [intOf]; omega
    ·
     obtain rfl : j = k := by omega
     have HO9 := Lib.hid (OLn.low ho.out HB8.out.size)
     have e8 : pcsL rows = (List.range rows.length).map (pieN rows) := rfl
     rw [HLEN.out] at e8
     rw [← e8] at HO9
     go_wp2_with fail
     go_ret3
     exact ⟨_, rfl, HO9.out, below_then HB8.out hb2.out⟩
end
end Go.Proofs.YtfcakjpljjnjnaaGreatDoor
/- stripe.restore: the closure that takes a piece. -/
namespace Go.Proofs.YtfcakjpljjnjnaaGreatDoor
open Go Go.RowKit Go.Shelf Gf Sha

section
attribute [local go_sem] Oper.semAt_some
/-- A call of a function value. -/
theorem wp_callV {P : Program} {o : Oper} {a : Act} {w : World} {K : Act → World → Prop} {Q : Exit → Act → World → Prop} {x : Operand} {xs : Array Operand} {ts : Array TypeId} {f : FuncId} {args lb : Array Value} {R : Value → World → Prop} (hop : o.op = .call { callee := .value x, args := xs, argTypes := ts })
  (hx : a.eval x = .func (.func f) #[] lb) (eg : ∀ args w, (callFunc f args).run P w = .ok (.enter f args) w) (hargs : xs.map a.eval = args) (h : Calls P f (args ++ lb) w fun e w' => ∃ v, e = .returned v ∧ R v w') (hK : ∀ v w', R v w' → K (a.put o.dst v) w') : o.wp P a w K Q := by
 unfold Oper.wp execOp
 subst hargs
 simp only [hop, resolve, hx]
 simp [invoke, go_sem, eg]
 refine h.mono ?_
 rintro e w' ⟨v, rfl, hr⟩
 exact hK v w' hr
end
theorem LS.int_at {w w' : World} {A : Option Addr} {n c : Nat} {m : List Int} (h : LS rInt 1 8 w A n c m) (hb : Below w.heap.size w w') {k : Nat} (hk : k < n) :
  ∃ x g o, m[k]? = some x ∧ A = some ⟨g, o, none⟩ ∧ w'.cell? ⟨g, o + k, none⟩ = some (.int .i64 x) := by
 obtain ⟨x, g, o, cs, hx, e, hat, rfl, _⟩ := h.at_ stay_int hb hk
 refine ⟨x, g, o, hx, e, ?_⟩
 rw [Nat.mul_one] at hat
 exact hat 0 _ rfl
theorem LS.ints {w : World} {A : Option Addr} {n c : Nat} {m : List Int} (h : LS rInt 1 8 w A n c m) (hn : 0 < n) : ∃ g o, A = some ⟨g, o, none⟩ ∧ ∀ j, j < m.length → w.cell? ⟨g, o + j, none⟩ = some (.int .i64 (m.getD j 0)) := by
 obtain ⟨_, g, o, _, rfl, _⟩ := h.int_at (Below.refl _ _) hn
 refine ⟨g, o, rfl, fun j hj => ?_⟩
 obtain ⟨x, g', o', hx, e, hc⟩ := h.int_at (Below.refl _ _) (show j < n by rw [← h.1]; exact hj)
 cases e
 rw [hc, List.getD_eq_getElem?_getD, hx]
 rfl
theorem icont_any (A : Option Addr) (n c : Nat) (m : List Int) (x : Int) (w : World) (h : LS rInt 1 8 w A n c m) :
  Calls Tryz.prog 72 #[.slice A n c, .int .i64 x] w fun e w' => e = .returned (.bool (m.contains x)) ∧ w' = w := by
 rcases Nat.eq_zero_or_pos n with h0 | h0
 ·
  subst h0
  have hm : m = [] := List.eq_nil_of_length_eq_zero h.1
  subst hm
  exact Tryz.slices_Contains_int_empty A c x w
 ·
  obtain ⟨g, o, rfl, hc⟩ := h.ints h0
  refine (Tryz.slices_Contains_int g o n c m x w (by rw [h.1]; exact Nat.le_refl _) (by have := h.2.2.1; unfold lim at this; omega) hc).mono ?_
  rintro e w' ⟨rfl, rfl⟩
  rw [List.take_of_length_le (by rw [h.1]; exact Nat.le_refl _)]
  exact ⟨rfl, rfl⟩
/-- A slice of bytes as an element. -/
def rBs : Rdg (List UInt8) := fun w cs x => ∃ A n c, cs = [.slice A n c] ∧ BS w A n c x
theorem stay_bs : Stay rBs := fun _ _ _ _ ⟨A, n, c, e, h⟩ hb => ⟨A, n, c, e, h.kept hb⟩
theorem infoInt1 : (Tryz.prog.info? 3).map (fun i => (i.zero, i.size, i.bytes)) = some (some (.int .i64 0), 1, 8) := by kernel_rfl
theorem infoByts : (Tryz.prog.info? 39).map (fun i => (i.zero, i.size, i.bytes)) = some (some (.slice none 0 0), 1, 24) := by kernel_rfl
theorem bslI1 (z : Int) (w : World) : (Instr.buildSlice 52 1 #[(0, .int .i64 z)]).run Tryz.prog w = .ok (.slice (some ⟨w.heap.size, 0, none⟩) 1 1) (w.alloc (.cells [.int .i64 z].toArray 3)) := by kernel_rfl
theorem bslBs (A : Option Addr) (n c : Nat) (w : World) : (Instr.buildSlice 45 1 #[(0, .slice A n c)]).run Tryz.prog w = .ok (.slice (some ⟨w.heap.size, 0, none⟩) 1 1) (w.alloc (.cells [.slice A n c].toArray 39)) := by kernel_rfl
theorem wpList_pushOI {w w0 : World} {ops : Array Oper} {rest : List Oper} {o : Oper} {a : Act} {Q : Exit → Act → World → Prop} (hg : o.guard = none) (sl x : Operand)
  (hop : o.op = .call { callee := .builtin .append, args := #[sl, x], argTypes := #[52, 52] }) (v : Value) (L : List (Int)) (hv : a.eval sl = v) (h : OL rInt 1 3 w0 w v L) (hb : w0.heap.size ≤ w.heap.size)
  (g : Nat) (u : Value) (y : Int) (hx : a.eval x = .slice (some ⟨g, 0, none⟩) 1 1) (hbl : BL w g 3 [u]) (hu : u.oneCell' = true) (hy : rInt w0 [u] y) (hl : L.length ≤ 10000)
  (hK : ∀ v' w', OL rInt 1 3 w0 w' v' (L ++ [y]) → Kp (fun b => v.ownBlock = some b) w w' → wpList Tryz.prog ops Q rest (a.put o.dst v') w') : wpList Tryz.prog ops Q (o :: rest) a w := by
 obtain ⟨css, h1, h2, h3, h4, h5⟩ := h
 obtain ⟨iS, i1, i2, i3, i4⟩ := info_some infoInt1
 refine wpList_appRW _ hg sl x 52 3 1 iS _ hop Tryz.underlying52 i1 i2 i3 rfl v _ _ hv h4 g _ hx hbl rfl (fun z hz => by rw [List.mem_singleton.1 hz]; exact hu) (by rw [i4]; omega) (by omega) ?_
 intro v' w' ap
 exact hK v' w' (OL.push h1 h2 h3 h5 rfl rfl hy hb ap) ap.kp
theorem wpList_pushOB {w w0 : World} {ops : Array Oper} {rest : List Oper} {o : Oper} {a : Act} {Q : Exit → Act → World → Prop} (hg : o.guard = none) (sl x : Operand)
  (hop : o.op = .call { callee := .builtin .append, args := #[sl, x], argTypes := #[45, 45] }) (v : Value) (L : List (List UInt8)) (hv : a.eval sl = v) (h : OL rBs 1 39 w0 w v L) (hb : w0.heap.size ≤ w.heap.size)
  (g : Nat) (u : Value) (y : List UInt8) (hx : a.eval x = .slice (some ⟨g, 0, none⟩) 1 1) (hbl : BL w g 39 [u]) (hu : u.oneCell' = true) (hy : rBs w0 [u] y) (hl : L.length ≤ 10000)
  (hK : ∀ v' w', OL rBs 1 39 w0 w' v' (L ++ [y]) → Kp (fun b => v.ownBlock = some b) w w' → wpList Tryz.prog ops Q rest (a.put o.dst v') w') : wpList Tryz.prog ops Q (o :: rest) a w := by
 obtain ⟨css, h1, h2, h3, h4, h5⟩ := h
 obtain ⟨iS, i1, i2, i3, i4⟩ := info_some infoByts
 refine wpList_appRW _ hg sl x 45 39 1 iS _ hop Tryz.underlying45 i1 i2 i3 rfl v _ _ hv h4 g _ hx hbl rfl (fun z hz => by rw [List.mem_singleton.1 hz]; exact hu) (by rw [i4]; omega) (by omega) ?_
 intro v' w' ap
 exact hK v' w' (OL.push h1 h2 h3 h5 rfl rfl hy hb ap) ap.kp
/-- The pieces that are taken. -/
def tkS (s : Sp) (st : List Int × List (List UInt8)) (p : Pe) : List Int × List (List UInt8) := if !st.1.contains p.ix && sfiB s p then (st.1 ++ [p.ix], st.2 ++ [p.da]) else st
/-- What has been taken, in memory. -/
structure TK (w0 w : World) (gs gi gg : Nat) (s : Sp) (R : Option Addr) (r e : Nat) (st : List Int × List (List UInt8)) : Prop where
 s : BL w gs 26 (spC s R r e)
 i : ∃ vi, BL w gi 52 [vi] ∧ OL rInt 1 3 w0 w vi st.1
 g : ∃ vg, BL w gg 45 [vg] ∧ OL rBs 1 39 w0 w vg st.2
 b : Below w0.heap.size w0 w
 hs : w0.heap.size ≤ gs
 hi : w0.heap.size ≤ gi
 hg : w0.heap.size ≤ gg
theorem TK.kept {w0 w w' : World} {gs gi gg : Nat} {s : Sp} {R : Option Addr} {r e : Nat} {st : List Int × List (List UInt8)} (h : TK w0 w gs gi gg s R r e st) (hb : Below w.heap.size w w') : TK w0 w' gs gi gg s R r e st :=
 ⟨h.s.kept hb, let ⟨v, x, y⟩ := h.i; ⟨v, x.kept hb, y.kept hb⟩, let ⟨v, x, y⟩ := h.g; ⟨v, x.kept hb, y.kept hb⟩, below_then h.b hb, h.hs, h.hi, h.hg⟩
theorem OL.kp {α : Type} {R : Rdg α} {s : Nat} {te : TypeId} {w0 w w' : World} {v : Value} {L : List α} {S : Nat → Prop} (h : OL R s te w0 w v L) (hk : Kp S w w') (hn : ∀ b, v.ownBlock = some b → ¬ S b) : OL R s te w0 w' v L :=
 let ⟨css, h1, h2, h3, h4, h5⟩ := h; ⟨css, h1, h2, h3, h4.kp hk hn, h5⟩
theorem OL.ne_bl {α : Type} {R : Rdg α} {s g : Nat} {te t : TypeId} {w0 w : World} {v : Value} {L : List α} {cs : List Value} (h : OL R s te w0 w v L) (hb : BL w g t cs) (ht : t ≠ te) : ∀ b, v.ownBlock = some b → b ≠ g :=
 let ⟨_, _, _, _, h4, _⟩ := h; h4.ne_bl hb ht
theorem OL.ne_ol {α β : Type} {R : Rdg α} {R' : Rdg β} {s s' : Nat} {te te' : TypeId} {w0 w0' w : World} {v v' : Value} {L : List α} {L' : List β} (h : OL R s te w0 w v L) (h' : OL R' s' te' w0' w v' L') (ht : te ≠ te') : ∀ b, v.ownBlock = some b → ¬ v'.ownBlock = some b := fun b e e' => by
 obtain ⟨_, _, _, _, h4, _⟩ := h
 obtain ⟨cs, hb⟩ := h4.ty e
 exact h'.ne_bl hb ht b e' rfl
theorem szI1 : (Tryz.prog.info? 52).map (·.size) = some 1 := by kernel_rfl
theorem szB1 : (Tryz.prog.info? 45).map (·.size) = some 1 := by kernel_rfl
theorem size1 {P : Program} {t : TypeId} (hz : (P.info? t).map (·.size) = some 1) (w : World) : (sizeOf t).run P w = .ok 1 w := by
 cases hi : P.info? t with
 | none => simp [hi] at hz
 | some i =>
  have hz' : i.size = 1 := by simpa [hi] using hz
  simp [sizeOf, typeInfo, hi, hz']
section
set_option maxRecDepth 100000
set_option maxHeartbeats 4000000
theorem take_any (w0 w : World) (gs gi gg : Nat) (s : Sp) (R : Option Addr) (r e : Nat) (st : List Int × List (List UInt8)) (p : Pe) (cp : List Value) (h : TK w0 w gs gi gg s R r e st) (hsp : rSp w0 (spC s R r e) s) (hp : rPe w0 cp p) (hT : Tabs w0) (hl1 : st.1.length ≤ 1000) (hl2 : st.2.length ≤ 1000) :
  Calls Tryz.prog 71 #[.agg cp.toArray, .pointer (some ⟨gi, 0, none⟩), .pointer (some ⟨gs, 0, none⟩), .pointer (some ⟨gg, 0, none⟩)] w fun e9 w' => (∃ v, e9 = .returned v) ∧ TK w0 w' gs gi gg s R r e (tkS s st p) := by
 have HTK := Lib.hid h
 have HSP : Hid (rSp w (spC s R r e) s) := Lib.hid (stay_sp _ _ _ _ hsp h.b)
 have HP : Hid (rPe w cp p) := Lib.hid (stay_pe _ _ _ _ hp h.b)
 have HP0 := Lib.hid hp
 have HT := Lib.hid (hT.kept h.b)
 have HB := Lib.hid h.b
 have HS := Lib.hid h.s
 obtain ⟨vi, hi, hli⟩ := h.i
 obtain ⟨vg, hg, hlg⟩ := h.g
 obtain ⟨Ai, ci, ev, hls⟩ := hli.ls (b := 8) stay_int h.b (by unfold lim; omega)
 obtain ⟨ni, hni⟩ : ∃ z, z = st.1.length := ⟨_, rfl⟩
 rw [← hni] at ev hls
 subst ev
 have HI := Lib.hid hi
 have HG := Lib.hid hg
 have HLI := Lib.hid hli
 have HLG := Lib.hid hlg
 have HLS := Lib.hid hls
 have HLE := Lib.hid (And.intro hl1 hl2)
 obtain ⟨A, n, c, B, m, d, rfl, hbs, _, _, hix⟩ := hp
 have HBS0 : Hid (rBs w0 [.slice A n c] p.da) := Lib.hid ⟨A, n, c, rfl, hbs⟩
 have HIX := Lib.hid hix
 clear h hsp hT hi hg hli hlg hls hbs hix hl1 hl2 hni
 cases f1 : st.1.contains p.ix with
 | true =>
  have HR : Hid (tkS s st p = st) := Lib.hid (by unfold tkS; rw [f1]; rfl)
  go_enter Tryz.func71, Tryz.ntmps71
  go_wp2_with (first
   | ((with_reducible show OpW 4); refine wpList_box _ rfl 48 (.tmp 0) rfl (peC p A n c B m d) rfl ?_; intro w1 y1 y2 y3; have HV1 := Lib.hid y1; have HX1 := Lib.hid y2; have HS1 := Lib.hid (HS.out.kept y2); have HI1 := Lib.hid (HI.out.kept y2); have HG1 := Lib.hid (HG.out.kept y2); have HLI1 := Lib.hid (HLI.out.kept y2); have HLG1 := Lib.hid (HLG.out.kept y2); have HLS1 := Lib.hid (HLS.out.kept stay_int y2); have q1 := y1.get (j := 1) rfl; have q2 := y1.get (j := 2) rfl; have i0 := HI1.out.get (j := 0) rfl; clear y1 y2 y3)
   | (go_at_call 72; refine (icont_any Ai ni ci st.1 p.ix w1 HLS1.out).mono ?_; rintro e9 w9 ⟨rfl, hw⟩; rw [hw, f1]; clear hw w9)
   | ((with_reducible show OpW 12); refine wpList_loadvg _ rfl 26 (.tmp 2) rfl 6 (by kernel_rfl) gs 0 (spC s R r e) rfl (BL.all HS1.out) rfl ?_)
   | ((with_reducible show OpW 13); refine wpList_loadvg _ rfl 48 (.tmp 4) rfl 4 (by kernel_rfl) w.heap.size 0 (peC p A n c B m d) rfl (BL.all HV1.out) rfl ?_)
   | (go_at_call 73; refine (sfits_any _ s _ p w1 (stay_sp _ _ _ _ HSP.out HX1.out) (stay_pe _ _ _ _ HP.out HX1.out) (HT.out.kept HX1.out)).mono ?_; rintro e9 w2 ⟨rfl, r2⟩; rw [f2]; have HX2 := Lib.hid (below_then HX1.out r2); have HI2 := Lib.hid (HI1.out.kept r2); have HG2 := Lib.hid (HG1.out.kept r2); have HS2 := Lib.hid (HS1.out.kept r2); have HLI2 := Lib.hid (HLI1.out.kept r2); have HLG2 := Lib.hid (HLG1.out.kept r2); have q1 := cell_kept r2 q1; have q2 := cell_kept r2 q2; have i0 := cell_kept r2 i0; have HV2 := Lib.hid (HV1.out.kept r2); clear r2)
   | fail)
  go_end0
  exact ⟨⟨_, rfl⟩, by rw [HR.out]; exact HTK.out.kept HX1.out⟩
 | false =>
  cases f2 : sfiB s p with
  | false =>
   have HR : Hid (tkS s st p = st) := Lib.hid (by unfold tkS; rw [f1, f2]; rfl)
   go_enter Tryz.func71, Tryz.ntmps71
   go_wp2_with (first
    | ((with_reducible show OpW 4); refine wpList_box _ rfl 48 (.tmp 0) rfl (peC p A n c B m d) rfl ?_; intro w1 y1 y2 y3; have HV1 := Lib.hid y1; have HX1 := Lib.hid y2; have HS1 := Lib.hid (HS.out.kept y2); have HI1 := Lib.hid (HI.out.kept y2); have HG1 := Lib.hid (HG.out.kept y2); have HLI1 := Lib.hid (HLI.out.kept y2); have HLG1 := Lib.hid (HLG.out.kept y2); have HLS1 := Lib.hid (HLS.out.kept stay_int y2); have q1 := y1.get (j := 1) rfl; have q2 := y1.get (j := 2) rfl; have i0 := HI1.out.get (j := 0) rfl; clear y1 y2 y3)
    | (go_at_call 72; refine (icont_any Ai ni ci st.1 p.ix w1 HLS1.out).mono ?_; rintro e9 w9 ⟨rfl, hw⟩; rw [hw, f1]; clear hw w9)
    | ((with_reducible show OpW 12); refine wpList_loadvg _ rfl 26 (.tmp 2) rfl 6 (by kernel_rfl) gs 0 (spC s R r e) rfl (BL.all HS1.out) rfl ?_)
    | ((with_reducible show OpW 13); refine wpList_loadvg _ rfl 48 (.tmp 4) rfl 4 (by kernel_rfl) w.heap.size 0 (peC p A n c B m d) rfl (BL.all HV1.out) rfl ?_)
    | (go_at_call 73; refine (sfits_any _ s _ p w1 (stay_sp _ _ _ _ HSP.out HX1.out) (stay_pe _ _ _ _ HP.out HX1.out) (HT.out.kept HX1.out)).mono ?_; rintro e9 w2 ⟨rfl, r2⟩; rw [f2]; have HX2 := Lib.hid (below_then HX1.out r2); have HI2 := Lib.hid (HI1.out.kept r2); have HG2 := Lib.hid (HG1.out.kept r2); have HS2 := Lib.hid (HS1.out.kept r2); have HLI2 := Lib.hid (HLI1.out.kept r2); have HLG2 := Lib.hid (HLG1.out.kept r2); have q1 := cell_kept r2 q1; have q2 := cell_kept r2 q2; have i0 := cell_kept r2 i0; have HV2 := Lib.hid (HV1.out.kept r2); clear r2)
    | fail)
   go_end0
   exact ⟨⟨_, rfl⟩, by rw [HR.out]; exact HTK.out.kept HX2.out⟩
  | true =>
   have HR : Hid (tkS s st p = (st.1 ++ [p.ix], st.2 ++ [p.da])) := Lib.hid (by unfold tkS; rw [f1, f2]; rfl)
   go_enter Tryz.func71, Tryz.ntmps71
   go_wp2_with (first
    | ((with_reducible show OpW 4); refine wpList_box _ rfl 48 (.tmp 0) rfl (peC p A n c B m d) rfl ?_; intro w1 y1 y2 y3; have HV1 := Lib.hid y1; have HX1 := Lib.hid y2; have HS1 := Lib.hid (HS.out.kept y2); have HI1 := Lib.hid (HI.out.kept y2); have HG1 := Lib.hid (HG.out.kept y2); have HLI1 := Lib.hid (HLI.out.kept y2); have HLG1 := Lib.hid (HLG.out.kept y2); have HLS1 := Lib.hid (HLS.out.kept stay_int y2); have q1 := y1.get (j := 1) rfl; have q2 := y1.get (j := 2) rfl; have i0 := HI1.out.get (j := 0) rfl; clear y1 y2 y3)
    | (go_at_call 72; refine (icont_any Ai ni ci st.1 p.ix w1 HLS1.out).mono ?_; rintro e9 w9 ⟨rfl, hw⟩; rw [hw, f1]; clear hw w9)
    | ((with_reducible show OpW 12); refine wpList_loadvg _ rfl 26 (.tmp 2) rfl 6 (by kernel_rfl) gs 0 (spC s R r e) rfl (BL.all HS1.out) rfl ?_)
    | ((with_reducible show OpW 13); refine wpList_loadvg _ rfl 48 (.tmp 4) rfl 4 (by kernel_rfl) w.heap.size 0 (peC p A n c B m d) rfl (BL.all HV1.out) rfl ?_)
    | (go_at_call 73; refine (sfits_any _ s _ p w1 (stay_sp _ _ _ _ HSP.out HX1.out) (stay_pe _ _ _ _ HP.out HX1.out) (HT.out.kept HX1.out)).mono ?_; rintro e9 w2 ⟨rfl, r2⟩; rw [f2]; have HX2 := Lib.hid (below_then HX1.out r2); have HI2 := Lib.hid (HI1.out.kept r2); have HG2 := Lib.hid (HG1.out.kept r2); have HS2 := Lib.hid (HS1.out.kept r2); have HLI2 := Lib.hid (HLI1.out.kept r2); have HLG2 := Lib.hid (HLG1.out.kept r2); have q1 := cell_kept r2 q1; have q2 := cell_kept r2 q2; have i0 := cell_kept r2 i0; have HV2 := Lib.hid (HV1.out.kept r2); clear r2)
    | ((with_reducible show OpW 20); refine wpList_bslice _ rfl 52 3 1 _ rfl #[(0, .int .i64 p.ix)] (by rw [List.map_toArray]; rfl) [.int .i64 p.ix] (bslI1 _ _) ?_; intro w3 a1 a2 a3; have HN3 := Lib.hid a1; have HX3 := Lib.hid a2; have HB3 : Hid (Below w0.heap.size w0 w3) := Lib.hid (below_then (below_then HB.out HX2.out) a2); have HLI3 := Lib.hid (HLI2.out.kept a2); have HLG3 := Lib.hid (HLG2.out.kept a2); have HI3 := Lib.hid (HI2.out.kept a2); have HG3 := Lib.hid (HG2.out.kept a2); have HS3 := Lib.hid (HS2.out.kept a2); have HV3 := Lib.hid (HV2.out.kept a2); clear a1 a2 a3)
    | ((with_reducible show OpW 21); refine wpList_pushOI rfl (.tmp 16) (.tmp 20) rfl _ _ rfl HLI3.out HB3.out.size w2.heap.size (.int .i64 p.ix) p.ix rfl HN3.out rfl ⟨rfl, HIX.out⟩ (by have := HLE.out.1; omega) ?_; intro vi' w4 a1 a2; obtain ⟨_, hrow⟩ := a1.row; obtain ⟨N1, hN1⟩ : ∃ z, z = (st.1 ++ [p.ix]).length := ⟨_, rfl⟩; rw [← hN1] at hrow; obtain ⟨Aj, cj, ev, _⟩ := hrow.form; subst ev; clear hrow hN1; have HV4 := Lib.hid (a2.bl HV3.out (fun e => HLI3.out.ne_bl HV3.out (by decide) w.heap.size e rfl)); have HLI4 := Lib.hid a1; have HI4 := Lib.hid (a2.bl HI3.out (fun e => HLI3.out.ne_bl HI3.out (by decide) gi e rfl)); have HG4 := Lib.hid (a2.bl HG3.out (fun e => HLI3.out.ne_bl HG3.out (by decide) gg e rfl)); have HS4 := Lib.hid (a2.bl HS3.out (fun e => HLI3.out.ne_bl HS3.out (by decide) gs e rfl)); have HLG4 := Lib.hid (HLG3.out.kp a2 (HLG3.out.ne_ol HLI3.out (by decide))); have HB4 : Hid (Below w0.heap.size w0 w4) := Lib.hid (low_kp HB3.out a2 (fun i hi e => by have := HLI3.out.own i e; omega)); clear a1 a2)
    | ((with_reducible show OpN); refine wpList_store1 _ rfl 52 (.tmp 1) (.tmp 21) rfl (size1 szI1 _) gi 0 _ _ (.slice Aj N1 cj) rfl rfl HI4.out rfl rfl (by simp) ?_; intro w5 a1 a2 a3; have HI5 : Hid (BL w5 gi 52 [.slice Aj N1 cj]) := Lib.hid a1; have HV5 := Lib.hid (a2.bl HV4.out (fun e => absurd (HV4.out.ty (by rw [e]; exact HI4.out)) (by decide))); have q2 := BL.get (j := 2) HV5.out rfl; have HG5 := Lib.hid (a2.bl HG4.out (fun e => absurd (HG4.out.ty (by rw [e]; exact HI4.out)) (by decide))); have g0 := BL.get (j := 0) HG5.out rfl; have HS5 := Lib.hid (a2.bl HS4.out (fun e => absurd (HS4.out.ty (by rw [e]; exact HI4.out)) (by decide))); have HLI5 := Lib.hid (HLI4.out.kp a2 (fun b hb e => HLI4.out.ne_bl HI4.out (by decide) b hb e)); have HLG5 := Lib.hid (HLG4.out.kp a2 (fun b hb e => HLG4.out.ne_bl HI4.out (by decide) b hb e)); have HB5 : Hid (Below w0.heap.size w0 w5) := Lib.hid (low_kp HB4.out a2 (fun i hi e => by have := HTK.out.hi; omega)); clear a1 a2 a3)
    | ((with_reducible show OpW 25); refine wpList_bslice _ rfl 45 39 1 _ rfl #[(0, .slice A n c)] (by rw [List.map_toArray]; rfl) [.slice A n c] (by exact bslBs _ _ _ _) ?_; intro w6 a1 a2 a3; have HN6 := Lib.hid a1; have HB6 : Hid (Below w0.heap.size w0 w6) := Lib.hid (below_then HB5.out a2); have HLI6 := Lib.hid (HLI5.out.kept a2); have HLG6 := Lib.hid (HLG5.out.kept a2); have HI6 := Lib.hid (HI5.out.kept a2); have HG6 := Lib.hid (HG5.out.kept a2); have HS6 := Lib.hid (HS5.out.kept a2); clear a1 a2 a3)
    | ((with_reducible show OpW 26); refine wpList_pushOB rfl (.tmp 22) (.tmp 25) rfl _ _ rfl HLG6.out HB6.out.size w5.heap.size (.slice A n c) p.da rfl HN6.out rfl HBS0.out (by have := HLE.out.2; omega) ?_; intro vg' w7 a1 a2; obtain ⟨_, hrow⟩ := a1.row; obtain ⟨N2, hN2⟩ : ∃ z, z = (st.2 ++ [p.da]).length := ⟨_, rfl⟩; rw [← hN2] at hrow; obtain ⟨Ak, ck, ev, _⟩ := hrow.form; subst ev; clear hrow hN2; have HLG7 := Lib.hid a1; have HI7 := Lib.hid (a2.bl HI6.out (fun e => HLG6.out.ne_bl HI6.out (by decide) gi e rfl)); have HG7 := Lib.hid (a2.bl HG6.out (fun e => HLG6.out.ne_bl HG6.out (by decide) gg e rfl)); have HS7 := Lib.hid (a2.bl HS6.out (fun e => HLG6.out.ne_bl HS6.out (by decide) gs e rfl)); have HLI7 := Lib.hid (HLI6.out.kp a2 (HLI6.out.ne_ol HLG6.out (by decide))); have HB7 : Hid (Below w0.heap.size w0 w7) := Lib.hid (low_kp HB6.out a2 (fun i hi e => by have := HLG6.out.own i e; omega)); clear a1 a2)
    | ((with_reducible show OpN); refine wpList_store1 _ rfl 45 (.tmp 3) (.tmp 26) rfl (size1 szB1 _) gg 0 _ _ (.slice Ak N2 ck) rfl rfl HG7.out rfl rfl (by simp) ?_; intro w8 a1 a2 a3; have HG8 : Hid (BL w8 gg 45 [.slice Ak N2 ck]) := Lib.hid a1; have HI8 := Lib.hid (a2.bl HI7.out (fun e => absurd (HI7.out.ty (by rw [e]; exact HG7.out)) (by decide))); have HS8 := Lib.hid (a2.bl HS7.out (fun e => absurd (HS7.out.ty (by rw [e]; exact HG7.out)) (by decide))); have HLG8 := Lib.hid (HLG7.out.kp a2 (fun b hb e => HLG7.out.ne_bl HG7.out (by decide) b hb e)); have HLI8 := Lib.hid (HLI7.out.kp a2 (fun b hb e => HLI7.out.ne_bl HG7.out (by decide) b hb e)); have HB8 : Hid (Below w0.heap.size w0 w8) := Lib.hid (low_kp HB7.out a2 (fun i hi e => by have := HTK.out.hg; omega)); clear a1 a2 a3))
   go_end0
   exact ⟨⟨_, rfl⟩, by rw [HR.out]; exact ⟨HS8.out, ⟨_, HI8.out, HLI8.out⟩, ⟨_, HG8.out, HLG8.out⟩, HB8.out, HTK.out.hs, HTK.out.hi, HTK.out.hg⟩⟩
end
end Go.Proofs.YtfcakjpljjnjnaaGreatDoor
