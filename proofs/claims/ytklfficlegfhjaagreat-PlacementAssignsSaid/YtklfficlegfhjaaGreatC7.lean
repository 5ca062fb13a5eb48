/- Several texts in one: Qo, Qp, Qq, Qr. -/
import Derived.Test.YtklfficlegfhjaaGreatC6
import Derived.Test.YtklfficlegfhjaaGreatC2
import Derived.Test.YtklfficlegfhjaaGreatC3
/- Keys of maps (places, pieces, stripes at devices, devices); the length of a map; Spread. -/
namespace Go.Proofs.YtklfficlegfhjaaGreat
open Go Go.RowKit Go.WideMaps Go.ChangeMaps Gf Sha

def intV (i : Int) : Value := .int .i64 i
def odV (x : List UInt8 × Int) : Value := .agg #[.string (strB x.1), .int .i64 x.2]
theorem intV_inj (x y : Int) (h : intV x = intV y) : x = y := by unfold intV at h; injection h
theorem odV_inj (x y : List UInt8 × Int) (h : odV x = odV y) : x = y := by
 unfold odV at h
 injection h with h
 have h1 := congrArg Array.toList h
 simp only [List.cons.injEq, Value.string.injEq, Value.int.injEq, and_true, true_and] at h1
 exact Prod.ext (strB_inj h1.1) h1.2
set_option maxRecDepth 100000 in
theorem odRow : (90 : TypeId) < Tryz.prog.types.size := of_decide_eq_true (by kernel_rfl)
set_option maxRecDepth 100000 in
theorem odWide : (match Tryz.prog.underlying 90 with | some (.array _ _) | some (.struct _) => true | _ => false) = true := by kernel_rfl
set_option maxRecDepth 100000 in
theorem odKeyed : Go.Maps.Keyed Tryz.prog 90 := Go.Maps.Keyed.of_law (deep_law_laid laidOutT (m := 2) (by omega) odRow (by kernel_rfl) odWide)
set_option maxRecDepth 100000 in
theorem odType : Tryz.prog.keyType 90 = true := by kernel_rfl
theorem devKeyed : Go.Maps.Keyed Tryz.prog 3 := Go.Maps.int_keyed Tryz.underlying3
theorem keyI (i : Int) (h : wfI i) : ∃ lx, keyOf Tryz.prog 3 (intV i) = some lx := by
 have h' : (Lit.int .i64 i).wf = true := h
 unfold keyOf
 rw [Tryz.underlying3]
 simp [mapKey, intV, Tryz.underlying3, h']
set_option maxRecDepth 100000 in
theorem keyOd (x : List UInt8 × Int) (h : x.1.length ≤ reachBytes ∧ wfI x.2) : ∃ lx, keyOf Tryz.prog 90 (odV x) = some lx := by
 obtain ⟨s, i⟩ := x
 obtain ⟨hs, hi⟩ := h
 have hi' : (Lit.int .i64 i).wf = true := hi
 have hc : Tryz.prog.cellsOf 90 = 2 := by kernel_rfl
 have hcs : Tryz.prog.cellsOf 9 = 1 := by kernel_rfl
 have hci : Tryz.prog.cellsOf 3 = 1 := by kernel_rfl
 have hm : (strB s).size ≤ maxLen := by rw [strB_size]; unfold maxLen; exact reach_key hs
 have hf : (Value.agg #[.string (strB s), .int .i64 i]).formed Tryz.prog 90 = true := by
  simp [Value.formed, Tryz.underlying90, hc]
 have hk : ∃ ls, Tryz.prog.keyLits (Tryz.prog.types.size + 1) 90 (Value.agg #[.string (strB s), .int .i64 i]).cells.toList = some ls := by
  obtain ⟨m, hm'⟩ : ∃ m, Tryz.prog.types.size = m + 1 := ⟨Tryz.prog.types.size - 1, by kernel_rfl⟩
  rw [hm']
  unfold Program.keyLits
  rw [Tryz.underlying90]
  simp only [Value.cells, hc]
  simp [Program.keyLits, Tryz.underlying9, Tryz.underlying3, hcs, hci, hm, hi']
 obtain ⟨ls, hk⟩ := hk
 exact ⟨.string (keyBytes ls), by
  show keyOf Tryz.prog 90 (Value.agg #[.string (strB s), .int .i64 i]) = _
  unfold keyOf
  rw [Tryz.underlying90]
  simp only [odType, hf, hk]
  rfl⟩
theorem mapII : Tryz.prog.underlying 84 = some (.map 3 3) := Tryz.underlying84
theorem mapPiB : Tryz.prog.underlying 87 = some (.map 78 4) := Tryz.underlying87
theorem mapOdB : Tryz.prog.underlying 88 = some (.map 90 4) := Tryz.underlying88
section
set_option maxRecDepth 100000
set_option maxHeartbeats 2000000
end
end Go.Proofs.YtklfficlegfhjaaGreat
/- Moves, Least. -/
namespace Go.Proofs.YtklfficlegfhjaaGreat
open Go Go.RowKit Go.WideMaps Go.ChangeMaps Gf Sha

theorem mem_next {α : Type} {l : List α} {k : Nat} {x y : α} (h : l[k]? = some x) : y ∈ l.take (k + 1) ↔ y ∈ l.take k ∨ y = x := by
 rw [take_next h, List.mem_append, List.mem_singleton]
section
set_option maxRecDepth 100000
set_option maxHeartbeats 2000000
end
end Go.Proofs.YtklfficlegfhjaaGreat
/- Least. -/
namespace Go.Proofs.YtklfficlegfhjaaGreat
open Go Go.RowKit Gf Sha

theorem spread_rng (s : List UInt8) (ps : List Pl) : 0 ≤ spreadI s ps ∧ spreadI s ps ≤ (ps.length : Int) := by
 unfold spreadI
 have : (spreadL s ps).length ≤ ps.length := by
  induction ps using snocRec with
  | nil => exact Nat.le_refl _
  | snoc P p ih =>
   rw [spread_step]
   split <;> simp <;> omega
 omega
section
set_option maxRecDepth 100000
set_option maxHeartbeats 2000000
end
end Go.Proofs.YtklfficlegfhjaaGreat
/- Check. -/
namespace Go.Proofs.YtklfficlegfhjaaGreat
open Go Go.RowKit Go.WideMaps Go.ChangeMaps Gf Sha

theorem At.pre {w : World} {g o : Nat} {a b : List Value} (h : At w g o (a ++ b)) : At w g o a := fun j v hj => h j v (by
 have := (List.getElem?_eq_some_iff.1 hj).1
 rw [List.getElem?_append_left this]; exact hj)
def leftF (hs : List Hd) (d : Int) : Option Value := (hs.find? (fun h => decide (h.dv = d))).map (fun h => intV h.qt)
theorem leftF_some (hs : List Hd) (d : Int) : (leftF hs d).isSome = devB hs d := by
 unfold leftF devB
 rw [Option.isSome_map]
 cases h : hs.find? (fun h => decide (h.dv = d)) with
 | none =>
  rw [List.find?_eq_none] at h
  symm
  rw [Option.isSome_none, List.any_eq_false]; simpa using h
 | some x =>
  have h1 := List.mem_of_find?_eq_some h
  have h2 := List.find?_some h
  rw [Option.isSome_some]
  exact (List.any_eq_true.2 ⟨x, h1, h2⟩).symm
theorem leftF_next {hs : List Hd} (hn : (hs.map Hd.dv).Nodup) {k : Nat} {x : Hd} (hk : hs[k]? = some x) (y : Int) : (if y = x.dv then some (intV x.qt) else leftF (hs.take k) y) = leftF (hs.take (k + 1)) y := by
 rw [take_next hk]
 unfold leftF
 rw [List.find?_append]
 by_cases h : y = x.dv
 ·
  rw [if_pos h]
  have : (hs.take k).find? (fun h => decide (h.dv = y)) = none := by
   rw [List.find?_eq_none]
   intro v hv e
   simp only [decide_eq_true_eq] at e
   exact nodup_not (f := Hd.dv) hk hv (by rw [e, h]) hn
  rw [this, h]; simp
 ·
  rw [if_neg h]
  have h' : ¬ x.dv = y := fun e => h e.symm
  cases (hs.take k).find? (fun h => decide (h.dv = y)) <;> simp [h']
/-- What is left of a quota, as the map says it. -/
def gLV (ws : List Wt) (hs : List Hd) (P : List Pl) (d : Int) : Value := match hs.find? (fun h => decide (h.dv = d)) with
 | some h => intV (h.qt - usedI ws P d)
 | none => intV 0
theorem gLV_start (ws : List Wt) (hs : List Hd) (d : Int) : (leftF hs d).getD (intV 0) = gLV ws hs [] d := by
 unfold leftF gLV
 cases hs.find? (fun h => decide (h.dv = d)) with
 | none => rfl
 | some h => show intV h.qt = intV (h.qt - 0); rw [Int.sub_zero]
theorem dev_at {hs : List Hd} {d : Int} (h : devB hs d = true) : ∃ x, hs.find? (fun h => decide (h.dv = d)) = some x ∧ x ∈ hs ∧ x.dv = d := by
 rw [← leftF_some] at h
 unfold leftF at h
 rw [Option.isSome_map] at h
 obtain ⟨x, hx⟩ := Option.isSome_iff_exists.1 h
 exact ⟨x, hx, List.mem_of_find?_eq_some hx, by simpa using List.find?_some hx⟩
theorem gLV_next {ws : List Wt} {hs : List Hd} {ps : List Pl} {k : Nat} {p : Pl} (hk : ps[k]? = some p) {x : Hd} (hx : hs.find? (fun h => decide (h.dv = p.dv)) = some x) (y : Int) :
  (if y = p.dv then intV (x.qt - usedI ws (ps.take k) p.dv - szOf ws p.st) else gLV ws hs (ps.take k) y) = gLV ws hs (ps.take (k + 1)) y := by
 unfold gLV
 rw [used_take hk]
 by_cases h : y = p.dv
 ·
  subst h
  rw [if_pos rfl, hx, if_pos rfl]
  simp only
  congr 1
  omega
 ·
  rw [if_neg h, if_neg (fun e => h e.symm), Int.add_zero]
theorem clash_hit {ps : List Pl} {k : Nat} {x : Pl} (hk : ps[k]? = some x) (h : (hasIx (ps.take k) x.st x.ix || hasAt (ps.take k) x.st x.dv) = true) : clashB ps = true := by
 rw [← Bool.not_eq_false, clashB_iff, List.pairwise_iff_getElem]
 intro hp
 obtain ⟨hkl, rfl⟩ := List.getElem?_eq_some_iff.1 hk
 rw [Bool.or_eq_true] at h
 rcases h with h | h
 ·
  obtain ⟨y, hy, h1⟩ := List.any_eq_true.1 h
  obtain ⟨j, hj, rfl⟩ := List.mem_take_iff_getElem.1 hy
  have := hp j k (by omega) hkl (by omega)
  simp only [decide_eq_true_eq] at h1
  simp [clash, h1] at this
 ·
  obtain ⟨y, hy, h1⟩ := List.any_eq_true.1 h
  obtain ⟨j, hj, rfl⟩ := List.mem_take_iff_getElem.1 hy
  have := hp j k (by omega) hkl (by omega)
  simp only [decide_eq_true_eq] at h1
  simp [clash, h1] at this
theorem clash_none {ps : List Pl} (h : ∀ (j : Nat) (x : Pl), ps[j]? = some x → hasIx (ps.take j) x.st x.ix = false ∧ hasAt (ps.take j) x.st x.dv = false) : clashB ps = false := by
 rw [clashB_iff, List.pairwise_iff_getElem]
 intro i j hi hj hij
 obtain ⟨h1, h2⟩ := h j ps[j] (List.getElem?_eq_getElem hj)
 have hm : ps[i] ∈ ps.take j := List.mem_take_iff_getElem.2 ⟨i, by omega, rfl⟩
 unfold clash
 rw [decide_eq_false_iff_not]
 rintro ⟨h3, h4 | h4⟩
 ·
  have := hasIx_of hm
  rw [h3, h4, h1] at this; cases this
 ·
  have := hasAt_of hm
  rw [h3, h4, h2] at this; cases this
theorem hasIx_next {ps : List Pl} {k : Nat} {x : Pl} (hk : ps[k]? = some x) (s : List UInt8) (i : Int) : hasIx (ps.take (k + 1)) s i = (hasIx (ps.take k) s i || decide (x.st = s ∧ x.ix = i)) := by
 unfold hasIx
 rw [take_next hk, List.any_append]; simp
theorem hasAt_next {ps : List Pl} {k : Nat} {x : Pl} (hk : ps[k]? = some x) (s : List UInt8) (i : Int) : hasAt (ps.take (k + 1)) s i = (hasAt (ps.take k) s i || decide (x.st = s ∧ x.dv = i)) := by
 unfold hasAt
 rw [take_next hk, List.any_append]; simp
theorem set_next (b : Bool) (s t : List UInt8) (i j : Int) : (if (s, i) = (t, j) then Value.bool true else .bool b) = .bool (b || decide (t = s ∧ j = i)) := by
 by_cases h : t = s ∧ j = i
 ·
  obtain ⟨rfl, rfl⟩ := h; simp
 ·
  rw [decide_eq_false h, Bool.or_false, if_neg]
  intro e
  injection e with e1 e2
  exact h ⟨e1.symm, e2.symm⟩
def odZ : List Value := [.string (strB []), .int .i64 0]
theorem odZero : (Tryz.prog.info? 90).map (·.zero) = some (some (.agg odZ.toArray)) := by kernel_rfl
theorem one_od (s : List UInt8) (i : Int) : ∀ v ∈ ([.string (strB s), .int .i64 i] : List Value), v.oneCell' = true := fun v hv => by
 simp only [List.mem_cons, List.not_mem_nil, or_false] at hv
 rcases hv with rfl | rfl <;> rfl
theorem bldOd (s : List UInt8) (i : Int) (w : World) : (Instr.build 90 #[(0, .string (strB s)), (1, .int .i64 i)]).run Tryz.prog w = .ok (.agg #[.string (strB s), .int .i64 i]) w := by kernel_rfl
section
set_option maxRecDepth 100000
set_option maxHeartbeats 4000000
theorem check_any (A : Option Addr) (n c : Nat) (ws : List Wt) (B : Option Addr) (m d : Nat) (hs : List Hd) (C : Option Addr) (p q : Nat) (ps : List Pl) (w : World) (h : LS rWt 4 40 w A n c ws) (hh : LS rHd 3 24 w B m d hs) (hp : LS rPl 3 32 w C p q ps) (hpm : p ≤ 100000) :
  Calls Tryz.prog 11 #[.slice A n c, .slice B m d, .slice C p q] w fun e w' => e = .returned (.int .i64 (checkE ws hs ps)) ∧ Below w.heap.size w w' := by
 have hn := h.len_le
 have hm := hh.len_le
 have H := Lib.hid h
 have HH := Lib.hid hh
 have HHL := Lib.hid hh.1
 have HP := Lib.hid hp
 have HL := Lib.hid hp.1
 clear h hh hp
 cases f1 : wantsB ws with
 | false =>
  have HR : Hid (checkE ws hs ps = 1) := Lib.hid (by unfold checkE; rw [f1]; rfl)
  go_enter Tryz.func11, Tryz.ntmps11
  go_wp2_with (first
   | (go_at_call 41; refine (wants_any A n c ws w H.out).mono ?_; rintro e va ⟨rfl, b1⟩; rw [f1]; have HB1 := Lib.hid b1; clear b1)
   | (go_at_call 42; refine (holders_any B m d hs va (HH.out.kept stay_hd HB1.out)).mono ?_; rintro e vb ⟨rfl, b2⟩; rw [f2]; have HB2 := Lib.hid (below_then HB1.out b2); clear b2)
   | (go_at_call 43; refine (known_any A n c ws C p q ps vb (H.out.kept stay_wt HB2.out) (HP.out.kept stay_pl HB2.out)).mono ?_; rintro e vc ⟨rfl, b3⟩; rw [f3]; have HB3 := Lib.hid (below_then HB2.out b3); clear b3)
   | fail)
  go_ret
  exact ⟨by rw [HR.out]; rfl, HB1.out⟩
 | true =>
  cases f2 : holdersB hs with
  | false =>
   have HR : Hid (checkE ws hs ps = 1) := Lib.hid (by unfold checkE; rw [f1, f2]; rfl)
   go_enter Tryz.func11, Tryz.ntmps11
   go_wp2_with (first
    | (go_at_call 41; refine (wants_any A n c ws w H.out).mono ?_; rintro e va ⟨rfl, b1⟩; rw [f1]; have HB1 := Lib.hid b1; clear b1)
    | (go_at_call 42; refine (holders_any B m d hs va (HH.out.kept stay_hd HB1.out)).mono ?_; rintro e vb ⟨rfl, b2⟩; rw [f2]; have HB2 := Lib.hid (below_then HB1.out b2); clear b2)
    | (go_at_call 43; refine (known_any A n c ws C p q ps vb (H.out.kept stay_wt HB2.out) (HP.out.kept stay_pl HB2.out)).mono ?_; rintro e vc ⟨rfl, b3⟩; rw [f3]; have HB3 := Lib.hid (below_then HB2.out b3); clear b3)
    | fail)
   go_ret
   exact ⟨by rw [HR.out]; rfl, HB2.out⟩
  | true =>
   cases f3 : namedB ws ps with
   | false =>
    have HR : Hid (checkE ws hs ps = 1) := Lib.hid (by unfold checkE; rw [f1, f2, f3]; rfl)
    go_enter Tryz.func11, Tryz.ntmps11
    go_wp2_with (first
     | (go_at_call 41; refine (wants_any A n c ws w H.out).mono ?_; rintro e va ⟨rfl, b1⟩; rw [f1]; have HB1 := Lib.hid b1; clear b1)
     | (go_at_call 42; refine (holders_any B m d hs va (HH.out.kept stay_hd HB1.out)).mono ?_; rintro e vb ⟨rfl, b2⟩; rw [f2]; have HB2 := Lib.hid (below_then HB1.out b2); clear b2)
     | (go_at_call 43; refine (known_any A n c ws C p q ps vb (H.out.kept stay_wt HB2.out) (HP.out.kept stay_pl HB2.out)).mono ?_; rintro e vc ⟨rfl, b3⟩; rw [f3]; have HB3 := Lib.hid (below_then HB2.out b3); clear b3)
     | fail)
    go_ret
    exact ⟨by rw [HR.out]; rfl, HB3.out⟩
   | true =>
    have HW := Lib.hid f1
    have HHB := Lib.hid f2
    have HNM := Lib.hid f3
    have HND : Hid ((hs.map Hd.dv).Nodup) := Lib.hid (by
     have := f2; unfold holdersB at this; simp only [Bool.and_eq_true, decide_eq_true_eq] at this; exact this.2)
    have HCK : Hid (checkE ws hs ps = if !(ps.all (fun p => devB hs p.dv)) then 1 else if clashB ps then 5 else if hs.any (fun h => decide (h.qt < usedI ws ps h.dv)) then 7 else 0) := Lib.hid (by unfold checkE; rw [f1, f2, f3]; rfl)
    go_enter Tryz.func11, Tryz.ntmps11
    go_wp2_with (first
     | (go_at_call 41; refine (wants_any A n c ws w H.out).mono ?_; rintro e va ⟨rfl, b1⟩; rw [f1]; have HB1 := Lib.hid b1; clear b1)
     | (go_at_call 42; refine (holders_any B m d hs va (HH.out.kept stay_hd HB1.out)).mono ?_; rintro e vb ⟨rfl, b2⟩; rw [f2]; have HB2 := Lib.hid (below_then HB1.out b2); clear b2)
     | (go_at_call 43; refine (known_any A n c ws C p q ps vb (H.out.kept stay_wt HB2.out) (HP.out.kept stay_pl HB2.out)).mono ?_; rintro e vc ⟨rfl, b3⟩; rw [f3]; have HB3 := Lib.hid (below_then HB2.out b3); clear b3)
     | ((with_reducible show OpW 35); refine wpList_makeF (enc := intV) _ rfl 84 3 rfl ?_; intro vd a1 a2 a3; have HM4 := Lib.hid a1; have HB4 := Lib.hid (below_then HB3.out a2); have HGB : Hid (w.heap.size ≤ vc.heap.size) := Lib.hid HB3.out.size; clear a1 a2 a3))
    clear f1 f2 f3
    go_loopw [38] (fun iv wr => ∃ k : Nat, k ≤ m ∧ iv = .int .i64 (k : Int) ∧ Hid (MF Tryz.prog 3 intV wr vc.heap.size (leftF (hs.take k))) ∧ Hid (Below w.heap.size w wr)) (fun iv _ => m - (intOf iv).toNat)
    case atStart => exact ⟨0, by omega, rfl, HM4, HB4⟩
    case round =>
     obtain ⟨k, hk, rfl, hmb, hb⟩ := hrel
     obtain ⟨wx, hwx⟩ : ∃ x, x = wr := ⟨_, rfl⟩
     rw [← hwx] at hmb hb ⊢
     clear hwx
     by_cases hlt : k < m
     ·
      obtain ⟨x, g, o, cs, hs', ea, hat, hr⟩ := HH.out.at_ stay_hd hb.out hlt
      obtain ⟨rfl, hok⟩ := hr
      have HX := Lib.hid hs'
      have HA := Lib.hid hat
      have HK := Lib.hid (keyI x.dv hok.1)
      subst ea
      clear hs' hat hok
      go_wp2_with (first
       | ((with_reducible show OpW 41); refine wpList_loadv _ rfl 76 (.tmp 40) rfl 3 (by kernel_rfl) g (o + k * 3) (hdL x) (by go_simp) HA.out rfl ?_)
       | ((with_reducible show OpW 9); refine wpList_alloc _ rfl 76 rfl hdZ hdZero ?_; intro w3 a1 a2 a3; have HV3 := Lib.hid a1; have HX3 := Lib.hid a2; clear a1 a2 a3)
       | ((with_reducible show OpN); refine wpList_storev _ rfl 76 (.tmp 9) (.tmp 41) rfl 3 (by kernel_rfl) wx.heap.size 0 _ hdZ (hdL x) rfl rfl HV3.out rfl (one_hd x) (by decide) ?_; intro w4 a1 a2 a3; have HV4 : Hid (BL w4 wx.heap.size 76 (hdL x)) := Lib.hid a1; have HX4 : Hid (Below wx.heap.size wx w4) := Lib.hid (((Kp.of_below (S := fun _ => False) HX3.out).after a2 (fun i hi e => by omega)).below (Nat.le_refl _) (fun _ h => h.elim)); clear a1 a2 a3; have HBy := Lib.hid (below_thenB hb.out hb.out.size HX4.out); have HMy := Lib.hid (hmb.out.kept HX4.out); have q0 := HV4.out.get (j := 0) rfl; have q1 := HV4.out.get (j := 1) rfl)
       | ((with_reducible show OpN); refine wpList_updF _ intV_inj rfl (.tmp 42) (.tmp 44) (.tmp 46) 84 3 3 rfl devKeyed mapII vc.heap.size _ rfl HMy.out x.dv (intV x.qt) rfl rfl HK.out ?_; intro w5 y1 y2 y3; have HM5 := Lib.hid y1; have HK5 := Lib.hid y2; clear y1 y2 y3))
      go_roundw
      case rel =>
       refine ⟨k + 1, by omega, by go_num, Lib.hid (HM5.out.to (fun y => leftF_next HND.out HX.out y)), Lib.hid ?_⟩
       exact ((Kp.of_below (S := fun i => i = vc.heap.size) HBy.out).trans HK5.out).below (Nat.le_refl _) (fun i e => by have := HGB.out; omega)
      case measure => simp [intOf]; omega
     ·
      obtain rfl : k = m := by omega
      rw [take_end HHL.out] at hmb
      have HM5 := hmb
      have HB5 := hb
      go_wp2_with fail
      go_loopw [50] (fun iv wr => ∃ k : Nat, k ≤ p ∧ iv = .int .i64 (k : Int) ∧ Hid (∀ x ∈ ps.take k, devB hs x.dv = true) ∧ Hid (Below wx.heap.size wx wr)) (fun iv _ => p - (intOf iv).toNat)
      case atStart => exact ⟨0, by omega, rfl, Lib.hid (fun x hx => by simp at hx), Lib.hid (Below.refl _ _)⟩
      case round =>
       obtain ⟨k, hk, rfl, hal, hb⟩ := hrel
       obtain ⟨wy, hwy⟩ : ∃ x, x = wr := ⟨_, rfl⟩
       rw [← hwy] at hb ⊢
       clear hwy
       have HBy := Lib.hid (below_thenB HB5.out HB5.out.size hb.out)
       by_cases hlt : k < p
       ·
        obtain ⟨x, g, o, cs, hs', ea, hat, hr⟩ := HP.out.at_ stay_pl HBy.out hlt
        obtain ⟨rfl, hok⟩ := hr
        have HX := Lib.hid hs'
        have HA := Lib.hid hat
        have HK := Lib.hid (keyI x.dv hok.2.2)
        have HXM : Hid (x ∈ ps) := Lib.hid (List.mem_of_getElem? hs')
        obtain ⟨u, hu⟩ : ∃ u, (leftF hs x.dv).getD (intV 0) = u := ⟨_, rfl⟩
        have HU := Lib.hid hu
        subst ea
        clear hs' hat hok hu
        cases f1 : devB hs x.dv with
        | false =>
         have HR : Hid (checkE ws hs ps = 1) := Lib.hid (by
          have h1 : ps.all (fun p => devB hs p.dv) = false := List.all_eq_false.2 ⟨x, HXM.out, by rw [f1]; decide⟩
          rw [HCK.out, h1]; rfl)
         go_wp2_with (first
          | ((with_reducible show OpW 53); refine wpList_loadv _ rfl 85 (.tmp 52) rfl 3 (by kernel_rfl) g (o + k * 3) (plL x) (by go_simp) HA.out rfl ?_)
          | ((with_reducible show OpW 11); refine wpList_alloc _ rfl 85 rfl plZ plZero ?_; intro w3 a1 a2 a3; have HV3 := Lib.hid a1; have HX3 := Lib.hid a2; clear a1 a2 a3)
          | ((with_reducible show OpN); refine wpList_storev _ rfl 85 (.tmp 11) (.tmp 53) rfl 3 (by kernel_rfl) wy.heap.size 0 _ plZ (plL x) rfl rfl HV3.out rfl (one_pl x) (by decide) ?_; intro w4 a1 a2 a3; have HV4 : Hid (BL w4 wy.heap.size 85 (plL x)) := Lib.hid a1; have HX4 : Hid (Below wy.heap.size wy w4) := Lib.hid (((Kp.of_below (S := fun _ => False) HX3.out).after a2 (fun i hi e => by omega)).below (Nat.le_refl _) (fun _ h => h.elim)); clear a1 a2 a3; have HBz := Lib.hid (below_thenB HBy.out HBy.out.size HX4.out); have HMz := Lib.hid (HM5.out.kept (below_thenB hb.out hb.out.size HX4.out)); have q2 := HV4.out.get (j := 2) rfl)
          | ((with_reducible show OpW 58); refine wpList_lookokFv _ rfl (.tmp 55) (.tmp 57) 84 3 3 rfl devKeyed mapII (.int .i64 0) intZero vc.heap.size _ rfl HMz.out x.dv rfl HK.out u false HU.out (by rw [leftF_some, f1]) ?_))
         go_ret
         exact ⟨by rw [HR.out]; rfl, HBz.out⟩
        | true =>
         have HAL : Hid (∀ y ∈ ps.take (k + 1), devB hs y.dv = true) := Lib.hid (fun y hy => by
          rcases (mem_next HX.out).1 hy with h | h
          ·
           exact hal.out y h
          ·
           rw [h]; exact f1)
         go_wp2_with (first
          | ((with_reducible show OpW 53); refine wpList_loadv _ rfl 85 (.tmp 52) rfl 3 (by kernel_rfl) g (o + k * 3) (plL x) (by go_simp) HA.out rfl ?_)
          | ((with_reducible show OpW 11); refine wpList_alloc _ rfl 85 rfl plZ plZero ?_; intro w3 a1 a2 a3; have HV3 := Lib.hid a1; have HX3 := Lib.hid a2; clear a1 a2 a3)
          | ((with_reducible show OpN); refine wpList_storev _ rfl 85 (.tmp 11) (.tmp 53) rfl 3 (by kernel_rfl) wy.heap.size 0 _ plZ (plL x) rfl rfl HV3.out rfl (one_pl x) (by decide) ?_; intro w4 a1 a2 a3; have HV4 : Hid (BL w4 wy.heap.size 85 (plL x)) := Lib.hid a1; have HX4 : Hid (Below wy.heap.size wy w4) := Lib.hid (((Kp.of_below (S := fun _ => False) HX3.out).after a2 (fun i hi e => by omega)).below (Nat.le_refl _) (fun _ h => h.elim)); clear a1 a2 a3; have HBz := Lib.hid (below_thenB hb.out hb.out.size HX4.out); have HMz := Lib.hid (HM5.out.kept HBz.out); have q2 := HV4.out.get (j := 2) rfl)
          | ((with_reducible show OpW 58); refine wpList_lookokFv _ rfl (.tmp 55) (.tmp 57) 84 3 3 rfl devKeyed mapII (.int .i64 0) intZero vc.heap.size _ rfl HMz.out x.dv rfl HK.out u true HU.out (by rw [leftF_some, f1]) ?_))
         go_roundw
         case rel => exact ⟨k + 1, by omega, by go_num, HAL, HBz⟩
         case measure => simp [intOf]; omega
       ·
        obtain rfl : p = k := by omega
        rw [take_end HL.out] at hal
        have HDV : Hid (∀ x ∈ ps, devB hs x.dv = true) := hal
        have HCK2 : Hid (checkE ws hs ps = if clashB ps then 5 else if hs.any (fun h => decide (h.qt < usedI ws ps h.dv)) then 7 else 0) := Lib.hid (by
         rw [HCK.out, List.all_eq_true.2 (fun x hx => HDV.out x hx)]; rfl)
        have HM6 := Lib.hid (HM5.out.kept hb.out)
        have HZ3 : Hid (vc.heap.size < wy.heap.size) := Lib.hid HM6.out.lt
        clear hal
        go_wp2_with (first
         | ((with_reducible show OpW 64); refine wpList_makeG (enc := odV) _ rfl 87 78 rfl (.bool false) ?_; intro w6 a1 a2 a3; have HP6 := Lib.hid a1; have HB6 := Lib.hid a2; clear a1 a2 a3)
         | ((with_reducible show OpW 65); refine wpList_makeG (enc := odV) _ rfl 88 90 rfl (.bool false) ?_; intro w7 a1 a2 a3; have HS7 := Lib.hid a1; have HP7 := Lib.hid (HP6.out.kept a2); have HB7 := Lib.hid (below_then HB6.out a2); have HZ6 := Lib.hid HP6.out.lt; clear a1 a2 a3))
        have HZZ : Hid (wy.heap.size < w6.heap.size ∧ w6.heap.size < w7.heap.size) := Lib.hid ⟨HZ6.out, HS7.out.lt⟩
        go_loopw [68] (fun iv wr => ∃ k : Nat, k ≤ p ∧ iv = .int .i64 (k : Int) ∧ Hid (MG Tryz.prog 78 odV (.bool false) wr wy.heap.size (fun y => .bool (hasIx (ps.take k) y.1 y.2))) ∧ Hid (MG Tryz.prog 90 odV (.bool false) wr w6.heap.size (fun y => .bool (hasAt (ps.take k) y.1 y.2))) ∧ Hid (∀ (j : Nat) (x : Pl), j < k → ps[j]? = some x → hasIx (ps.take j) x.st x.ix = false ∧ hasAt (ps.take j) x.st x.dv = false) ∧ Hid (Kp (fun b => b = wy.heap.size ∨ b = w6.heap.size) w7 wr)) (fun iv _ => p - (intOf iv).toNat)
        case atStart => exact ⟨0, by omega, rfl, Lib.hid (HP7.out.to (fun y => by simp [hasIx])), Lib.hid (HS7.out.to (fun y => by simp [hasAt])), Lib.hid (fun j x hj => by omega), Lib.hid (Kp.refl _ _)⟩
        case round =>
         obtain ⟨k, hk, rfl, hmp, hms, hnc, hkp⟩ := hrel
         obtain ⟨wz, hwz⟩ : ∃ x, x = wr := ⟨_, rfl⟩
         rw [← hwz] at hmp hms hkp ⊢
         clear hwz
         have HBz7 : Hid (Below wy.heap.size wy wz) := Lib.hid (((Kp.of_below (S := fun b => b = wy.heap.size ∨ b = w6.heap.size) HB7.out).trans hkp.out).below (Nat.le_refl _) (fun i e => by have := HZZ.out; omega))
         have HBz := Lib.hid (below_thenB HBy.out HBy.out.size HBz7.out)
         have HZz : Hid (wy.heap.size < wz.heap.size ∧ w6.heap.size < wz.heap.size) := Lib.hid (by have := HZZ.out; have := hkp.out.size; omega)
         by_cases hlt : k < p
         ·
          obtain ⟨x, g, o, cs, hs', ea, hat, hr⟩ := HP.out.at_ stay_pl HBz.out hlt
          obtain ⟨rfl, hok⟩ := hr
          have HX := Lib.hid hs'
          have HA := Lib.hid hat
          have HKP : Hid (∃ lx, keyOf Tryz.prog 78 (odV (x.st, x.ix)) = some lx) := Lib.hid (keyPid x.st x.ix (reach_key hok.1) hok.2.1)
          have HKO := Lib.hid (keyOd (x.st, x.dv) ⟨hok.1, hok.2.2⟩)
          have HIN := Lib.hid (hasIx_next hs')
          have HAN := Lib.hid (hasAt_next hs')
          have HHIT : Hid ((hasIx (ps.take k) x.st x.ix || hasAt (ps.take k) x.st x.dv) = true → checkE ws hs ps = 5) := Lib.hid (fun h => by
           rw [HCK2.out, clash_hit hs' h]; rfl)
          subst ea
          clear hs' hat hok
          cases f1 : hasIx (ps.take k) x.st x.ix with
          | true =>
           have HR : Hid (checkE ws hs ps = 5) := Lib.hid (HHIT.out (by rw [f1]; rfl))
           clear HHIT
           go_wp2_with (first
            | ((with_reducible show OpW 71); refine wpList_loadv _ rfl 85 (.tmp 70) rfl 3 (by kernel_rfl) g (o + k * 3) (plL x) (by go_simp) HA.out rfl ?_)
            | ((with_reducible show OpW 17); refine wpList_alloc _ rfl 85 rfl plZ plZero ?_; intro w3 a1 a2 a3; have HV3 := Lib.hid a1; have HX3 := Lib.hid a2; clear a1 a2 a3)
            | ((with_reducible show OpN); refine wpList_storev _ rfl 85 (.tmp 17) (.tmp 71) rfl 3 (by kernel_rfl) wz.heap.size 0 _ plZ (plL x) rfl rfl HV3.out rfl (one_pl x) (by decide) ?_; intro w4 a1 a2 a3; have HV4 : Hid (BL w4 wz.heap.size 85 (plL x)) := Lib.hid a1; have HX4 : Hid (Below wz.heap.size wz w4) := Lib.hid (((Kp.of_below (S := fun _ => False) HX3.out).after a2 (fun i hi e => by omega)).below (Nat.le_refl _) (fun _ h => h.elim)); clear a1 a2 a3; have q0 := HV4.out.get (j := 0) rfl; have q2 := HV4.out.get (j := 2) rfl)
            | ((with_reducible show OpW 77); refine wpList_build _ rfl 90 _ rfl #[(0, .string (strB x.st)), (1, .int .i64 x.dv)] (by rw [List.map_toArray]; rfl) (.agg #[.string (strB x.st), .int .i64 x.dv]) (bldOd _ _ _) ?_)
            | ((with_reducible show OpW 18); refine wpList_alloc _ rfl 90 rfl odZ odZero ?_; intro w8 a1 a2 a3; have HD8 := Lib.hid a1; have HX8 := Lib.hid (below_then HX4.out a2); have HZ4 := Lib.hid a3; have HV8 := Lib.hid (HV4.out.kept a2); clear a1 a2 a3 q0 q2)
            | ((with_reducible show OpN); refine wpList_storev _ rfl 90 (.tmp 18) (.tmp 77) rfl 2 (by kernel_rfl) w4.heap.size 0 _ odZ [.string (strB x.st), .int .i64 x.dv] rfl rfl HD8.out rfl (one_od _ _) (by decide) ?_; intro w9 a1 a2 a3; have HD9 : Hid (BL w9 w4.heap.size 90 [.string (strB x.st), .int .i64 x.dv]) := Lib.hid a1; have HX9 : Hid (Below wz.heap.size wz w9) := Lib.hid (((Kp.of_below (S := fun _ => False) HX8.out).after a2 (fun i hi e => by have := HX4.out.size; omega)).below (Nat.le_refl _) (fun _ h => h.elim)); have HV9 : Hid (BL w9 wz.heap.size 85 (plL x)) := Lib.hid (a2.bl HV8.out (fun e => by have := HV4.out.lt; omega)); have HB9 := Lib.hid (below_thenB HBz.out HBz.out.size HX9.out); have HMP9 := Lib.hid (hmp.out.kept HX9.out); have HMS9 := Lib.hid (hms.out.kept HX9.out); have HZ9 : Hid (wz.heap.size < w4.heap.size ∧ w4.heap.size < w9.heap.size) := Lib.hid ⟨HV4.out.lt, HD9.out.lt⟩; clear a1 a2 a3)
            | ((with_reducible show OpW 80); refine wpList_loadv _ rfl 78 (.tmp 79) rfl 2 (by kernel_rfl) wz.heap.size 0 [.string (strB x.st), .int .i64 x.ix] rfl (At.pre (b := [.int .i64 x.dv]) (BL.all HV9.out)) rfl ?_)
            | ((with_reducible show OpW 81); refine wpList_lookGv _ rfl (.tmp 78) (.tmp 80) 87 78 4 rfl pidKeyed mapPiB (.bool false) boolZero wy.heap.size _ rfl HMP9.out (x.st, x.ix) rfl HKP.out (.bool true) (by rw [f1]) ?_)
            | fail)
           go_ret
           exact ⟨by rw [HR.out]; rfl, HB9.out⟩
          | false =>
           cases f2 : hasAt (ps.take k) x.st x.dv with
           | true =>
            have HR : Hid (checkE ws hs ps = 5) := Lib.hid (HHIT.out (by rw [f1, f2]; rfl))
            clear HHIT
            go_wp2_with (first
             | ((with_reducible show OpW 71); refine wpList_loadv _ rfl 85 (.tmp 70) rfl 3 (by kernel_rfl) g (o + k * 3) (plL x) (by go_simp) HA.out rfl ?_)
             | ((with_reducible show OpW 17); refine wpList_alloc _ rfl 85 rfl plZ plZero ?_; intro w3 a1 a2 a3; have HV3 := Lib.hid a1; have HX3 := Lib.hid a2; clear a1 a2 a3)
             | ((with_reducible show OpN); refine wpList_storev _ rfl 85 (.tmp 17) (.tmp 71) rfl 3 (by kernel_rfl) wz.heap.size 0 _ plZ (plL x) rfl rfl HV3.out rfl (one_pl x) (by decide) ?_; intro w4 a1 a2 a3; have HV4 : Hid (BL w4 wz.heap.size 85 (plL x)) := Lib.hid a1; have HX4 : Hid (Below wz.heap.size wz w4) := Lib.hid (((Kp.of_below (S := fun _ => False) HX3.out).after a2 (fun i hi e => by omega)).below (Nat.le_refl _) (fun _ h => h.elim)); clear a1 a2 a3; have q0 := HV4.out.get (j := 0) rfl; have q2 := HV4.out.get (j := 2) rfl)
             | ((with_reducible show OpW 77); refine wpList_build _ rfl 90 _ rfl #[(0, .string (strB x.st)), (1, .int .i64 x.dv)] (by rw [List.map_toArray]; rfl) (.agg #[.string (strB x.st), .int .i64 x.dv]) (bldOd _ _ _) ?_)
             | ((with_reducible show OpW 18); refine wpList_alloc _ rfl 90 rfl odZ odZero ?_; intro w8 a1 a2 a3; have HD8 := Lib.hid a1; have HX8 := Lib.hid (below_then HX4.out a2); have HZ4 := Lib.hid a3; have HV8 := Lib.hid (HV4.out.kept a2); clear a1 a2 a3 q0 q2)
             | ((with_reducible show OpN); refine wpList_storev _ rfl 90 (.tmp 18) (.tmp 77) rfl 2 (by kernel_rfl) w4.heap.size 0 _ odZ [.string (strB x.st), .int .i64 x.dv] rfl rfl HD8.out rfl (one_od _ _) (by decide) ?_; intro w9 a1 a2 a3; have HD9 : Hid (BL w9 w4.heap.size 90 [.string (strB x.st), .int .i64 x.dv]) := Lib.hid a1; have HX9 : Hid (Below wz.heap.size wz w9) := Lib.hid (((Kp.of_below (S := fun _ => False) HX8.out).after a2 (fun i hi e => by have := HX4.out.size; omega)).below (Nat.le_refl _) (fun _ h => h.elim)); have HV9 : Hid (BL w9 wz.heap.size 85 (plL x)) := Lib.hid (a2.bl HV8.out (fun e => by have := HV4.out.lt; omega)); have HB9 := Lib.hid (below_thenB HBz.out HBz.out.size HX9.out); have HMP9 := Lib.hid (hmp.out.kept HX9.out); have HMS9 := Lib.hid (hms.out.kept HX9.out); have HZ9 : Hid (wz.heap.size < w4.heap.size ∧ w4.heap.size < w9.heap.size) := Lib.hid ⟨HV4.out.lt, HD9.out.lt⟩; clear a1 a2 a3)
             | ((with_reducible show OpW 80); refine wpList_loadv _ rfl 78 (.tmp 79) rfl 2 (by kernel_rfl) wz.heap.size 0 [.string (strB x.st), .int .i64 x.ix] rfl (At.pre (b := [.int .i64 x.dv]) (BL.all HV9.out)) rfl ?_)
             | ((with_reducible show OpW 81); refine wpList_lookGv _ rfl (.tmp 78) (.tmp 80) 87 78 4 rfl pidKeyed mapPiB (.bool false) boolZero wy.heap.size _ rfl HMP9.out (x.st, x.ix) rfl HKP.out (.bool false) (by rw [f1]) ?_)
             | ((with_reducible show OpW 84); refine wpList_loadvg _ rfl 90 (.tmp 18) rfl 2 (by kernel_rfl) w4.heap.size 0 [.string (strB x.st), .int .i64 x.dv] rfl (BL.all HD9.out) rfl ?_)
             | ((with_reducible show OpW 85); refine wpList_lookGgv _ rfl (.tmp 83) (.tmp 84) 88 90 4 rfl odKeyed mapOdB (.bool false) boolZero w6.heap.size _ rfl HMS9.out (x.st, x.dv) rfl HKO.out (.bool true) (by rw [f2]) ?_))
            go_ret
            exact ⟨by rw [HR.out]; rfl, HB9.out⟩
           | false =>
            have HNC : Hid (∀ (j : Nat) (y : Pl), j < k + 1 → ps[j]? = some y → hasIx (ps.take j) y.st y.ix = false ∧ hasAt (ps.take j) y.st y.dv = false) := Lib.hid (fun j y hj hy => by
             by_cases e : j = k
             ·
              subst e
              rw [HX.out] at hy; cases hy
              exact ⟨f1, f2⟩
             ·
              exact hnc.out j y (by omega) hy)
            clear HHIT
            go_wp2_with (first
             | ((with_reducible show OpW 71); refine wpList_loadv _ rfl 85 (.tmp 70) rfl 3 (by kernel_rfl) g (o + k * 3) (plL x) (by go_simp) HA.out rfl ?_)
             | ((with_reducible show OpW 17); refine wpList_alloc _ rfl 85 rfl plZ plZero ?_; intro w3 a1 a2 a3; have HV3 := Lib.hid a1; have HX3 := Lib.hid a2; clear a1 a2 a3)
             | ((with_reducible show OpN); refine wpList_storev _ rfl 85 (.tmp 17) (.tmp 71) rfl 3 (by kernel_rfl) wz.heap.size 0 _ plZ (plL x) rfl rfl HV3.out rfl (one_pl x) (by decide) ?_; intro w4 a1 a2 a3; have HV4 : Hid (BL w4 wz.heap.size 85 (plL x)) := Lib.hid a1; have HX4 : Hid (Below wz.heap.size wz w4) := Lib.hid (((Kp.of_below (S := fun _ => False) HX3.out).after a2 (fun i hi e => by omega)).below (Nat.le_refl _) (fun _ h => h.elim)); clear a1 a2 a3; have q0 := HV4.out.get (j := 0) rfl; have q2 := HV4.out.get (j := 2) rfl)
             | ((with_reducible show OpW 77); refine wpList_build _ rfl 90 _ rfl #[(0, .string (strB x.st)), (1, .int .i64 x.dv)] (by rw [List.map_toArray]; rfl) (.agg #[.string (strB x.st), .int .i64 x.dv]) (bldOd _ _ _) ?_)
             | ((with_reducible show OpW 18); refine wpList_alloc _ rfl 90 rfl odZ odZero ?_; intro w8 a1 a2 a3; have HD8 := Lib.hid a1; have HX8 := Lib.hid (below_then HX4.out a2); have HZ4 := Lib.hid a3; have HV8 := Lib.hid (HV4.out.kept a2); clear a1 a2 a3 q0 q2)
             | ((with_reducible show OpN); refine wpList_storev _ rfl 90 (.tmp 18) (.tmp 77) rfl 2 (by kernel_rfl) w4.heap.size 0 _ odZ [.string (strB x.st), .int .i64 x.dv] rfl rfl HD8.out rfl (one_od _ _) (by decide) ?_; intro w9 a1 a2 a3; have HD9 : Hid (BL w9 w4.heap.size 90 [.string (strB x.st), .int .i64 x.dv]) := Lib.hid a1; have HX9 : Hid (Below wz.heap.size wz w9) := Lib.hid (((Kp.of_below (S := fun _ => False) HX8.out).after a2 (fun i hi e => by have := HX4.out.size; omega)).below (Nat.le_refl _) (fun _ h => h.elim)); have HV9 : Hid (BL w9 wz.heap.size 85 (plL x)) := Lib.hid (a2.bl HV8.out (fun e => by have := HV4.out.lt; omega)); have HB9 := Lib.hid (below_thenB HBz.out HBz.out.size HX9.out); have HMP9 := Lib.hid (hmp.out.kept HX9.out); have HMS9 := Lib.hid (hms.out.kept HX9.out); have HZ9 : Hid (wz.heap.size < w4.heap.size ∧ w4.heap.size < w9.heap.size) := Lib.hid ⟨HV4.out.lt, HD9.out.lt⟩; clear a1 a2 a3)
             | ((with_reducible show OpW 80); refine wpList_loadv _ rfl 78 (.tmp 79) rfl 2 (by kernel_rfl) wz.heap.size 0 [.string (strB x.st), .int .i64 x.ix] rfl (At.pre (b := [.int .i64 x.dv]) (BL.all HV9.out)) rfl ?_)
             | ((with_reducible show OpW 81); refine wpList_lookGv _ rfl (.tmp 78) (.tmp 80) 87 78 4 rfl pidKeyed mapPiB (.bool false) boolZero wy.heap.size _ rfl HMP9.out (x.st, x.ix) rfl HKP.out (.bool false) (by rw [f1]) ?_)
             | ((with_reducible show OpW 84); refine wpList_loadvg _ rfl 90 (.tmp 18) rfl 2 (by kernel_rfl) w4.heap.size 0 [.string (strB x.st), .int .i64 x.dv] rfl (BL.all HD9.out) rfl ?_)
             | ((with_reducible show OpW 85); refine wpList_lookGgv _ rfl (.tmp 83) (.tmp 84) 88 90 4 rfl odKeyed mapOdB (.bool false) boolZero w6.heap.size _ rfl HMS9.out (x.st, x.dv) rfl HKO.out (.bool false) (by rw [f2]) ?_)
             | ((with_reducible show OpW 89); refine wpList_loadv _ rfl 78 (.tmp 88) rfl 2 (by kernel_rfl) wz.heap.size 0 [.string (strB x.st), .int .i64 x.ix] rfl (At.pre (b := [.int .i64 x.dv]) (BL.all HV9.out)) rfl ?_)
             | ((with_reducible show OpN); refine wpList_updG _ odV_inj rfl (.tmp 87) (.tmp 89) (.const (.bool true)) 87 78 4 rfl pidKeyed mapPiB (.bool false) wy.heap.size _ rfl HMP9.out (x.st, x.ix) (.bool true) rfl rfl HKP.out ?_; intro w10 a1 a2 a3; have HMP10 := Lib.hid a1; have HK10 := Lib.hid a2; have HD10 := Lib.hid (a2.bl HD9.out (fun e => by have := HZ9.out; have := HZz.out; omega)); have HMS10 := Lib.hid (HMS9.out.kp a2 (fun e => by have := HZZ.out; omega)); clear a1 a2 a3)
             | ((with_reducible show OpW 91); refine wpList_loadv _ rfl 90 (.tmp 18) rfl 2 (by kernel_rfl) w4.heap.size 0 [.string (strB x.st), .int .i64 x.dv] rfl (BL.all HD10.out) rfl ?_)
             | ((with_reducible show OpN); refine wpList_updG _ odV_inj rfl (.tmp 90) (.tmp 91) (.const (.bool true)) 88 90 4 rfl odKeyed mapOdB (.bool false) w6.heap.size _ rfl HMS10.out (x.st, x.dv) (.bool true) rfl rfl HKO.out ?_; intro w11 a1 a2 a3; have HMS11 := Lib.hid a1; have HK11 := Lib.hid a2; have HMP11 := Lib.hid (HMP10.out.kp a2 (fun e => by have := HZZ.out; omega)); clear a1 a2 a3))
            go_roundw
            case rel =>
             refine ⟨k + 1, by omega, by go_num, Lib.hid (HMP11.out.to (fun y => ?_)), Lib.hid (HMS11.out.to (fun y => ?_)), HNC, Lib.hid ?_⟩
             ·
              rw [HIN.out]; exact set_next _ y.1 x.st y.2 x.ix
             ·
              rw [HAN.out]; exact set_next _ y.1 x.st y.2 x.dv
             ·
              exact ((hkp.out.trans (Kp.of_below HX9.out)).trans (HK10.out.mono (fun i _ e => .inl e))).trans (HK11.out.mono (fun i _ e => .inr e))
            case measure => simp [intOf]; omega
         ·
          obtain rfl : p = k := by omega
          have HNCL : Hid (clashB ps = false) := Lib.hid (clash_none (fun j x hj => hnc.out j x (by have := (List.getElem?_eq_some_iff.1 hj).1; have := HL.out; omega) hj))
          have HCK3 : Hid (checkE ws hs ps = if hs.any (fun h => decide (h.qt < usedI ws ps h.dv)) then 7 else 0) := Lib.hid (by rw [HCK2.out, HNCL.out]; rfl)
          have HG8 : Hid (MG Tryz.prog 3 intV (.int .i64 0) wz vc.heap.size (gLV ws hs [])) := Lib.hid ⟨_, HM6.out.kept HBz7.out, fun y => gLV_start ws hs y⟩
          have HQ0 : Hid (∀ x ∈ hs, 0 ≤ x.qt ∧ x.qt ≤ 1099511627776) := Lib.hid (fun x hx => by
           have := HHB.out
           unfold holdersB at this
           simp only [Bool.and_eq_true, List.all_eq_true] at this
           have := this.1.2 x hx
           simp [hdB] at this
           omega)
          have HPM := Lib.hid hpm
          go_wp2_with fail
          go_loopw [95] (fun iv wr => ∃ k : Nat, k ≤ p ∧ iv = .int .i64 (k : Int) ∧ Hid (MG Tryz.prog 3 intV (.int .i64 0) wr vc.heap.size (gLV ws hs (ps.take k))) ∧ Hid (∀ x ∈ hs, usedI ws (ps.take k) x.dv ≤ x.qt) ∧ Hid (Kp (fun b => b = vc.heap.size) wz wr)) (fun iv _ => p - (intOf iv).toNat)
          case atStart => exact ⟨0, by omega, rfl, HG8, Lib.hid (fun x hx => (HQ0.out x hx).1), Lib.hid (Kp.refl _ _)⟩
          case round =>
           obtain ⟨k, hk, rfl, hmg, hall, hkq⟩ := hrel
           obtain ⟨wu, hwu⟩ : ∃ x, x = wr := ⟨_, rfl⟩
           rw [← hwu] at hmg hkq ⊢
           clear hwu
           have HBu : Hid (Below w.heap.size w wu) := Lib.hid (((Kp.of_below (S := fun b => b = vc.heap.size) HBz.out).trans hkq.out).below (Nat.le_refl _) (fun i e => by have := HGB.out; omega))
           by_cases hlt : k < p
           ·
            obtain ⟨x, g, o, cs, hs', ea, hat, hr⟩ := HP.out.at_ stay_pl HBu.out hlt
            obtain ⟨rfl, hok⟩ := hr
            have HX := Lib.hid hs'
            have HA := Lib.hid hat
            have HK := Lib.hid (keyI x.dv hok.2.2)
            have HXM := List.mem_of_getElem? hs'
            obtain ⟨y, hy1, hy2, hy3⟩ := dev_at (HDV.out x HXM)
            have HY := Lib.hid (And.intro hy1 (And.intro hy2 hy3))
            have hnm := List.all_eq_true.1 HNM.out x HXM
            obtain ⟨i, v, h1, h2, h3⟩ : ∃ (i : Nat) (v : Wt), fdI ws x.st = (i : Int) ∧ ws[i]? = some v ∧ wat ws x.st = some v := by
             rcases fdI_cases ws x.st with ⟨_, h1⟩ | h1
             ·
              unfold nameB at hnm; rw [h1] at hnm; cases hnm
             ·
              exact h1
            obtain ⟨gw, ow, ew, hin, _⟩ := H.out.wt_at (Below.refl _ _) h2
            subst ew
            have HI := Lib.hid h2
            have HF := Lib.hid h1
            have HS : Hid (szOf ws x.st = v.sz) := Lib.hid (by unfold szOf; rw [h3])
            have hin' : (i : Int) < (n : Int) := by omega
            have hy4 := hall.out y hy2
            rw [hy3] at hy4
            have hur := used_rng HW.out ps x.dv k
            have hqr := HQ0.out y hy2
            have hvr := sz_nonneg HW.out x.st
            rw [HS.out] at hvr
            have HGN : Hid (∀ z, (if z = x.dv then intV (y.qt - usedI ws (ps.take k) x.dv - v.sz) else gLV ws hs (ps.take k) z) = gLV ws hs (ps.take (k + 1)) z) := Lib.hid (fun z => by
             have := gLV_next (ws := ws) hs' hy1 z
             rw [HS.out] at this; exact this)
            have HUN : Hid (usedI ws (ps.take (k + 1)) x.dv = usedI ws (ps.take k) x.dv + v.sz) := Lib.hid (by rw [used_take hs', if_pos rfl, HS.out])
            have hgl : gLV ws hs (ps.take k) x.dv = .int .i64 (y.qt - usedI ws (ps.take k) x.dv) := by
             unfold gLV; rw [hy1]; rfl
            have HGL := Lib.hid hgl
            have HG2 : Hid (gLV ws hs (ps.take (k + 1)) x.dv = .int .i64 (y.qt - usedI ws (ps.take k) x.dv - v.sz)) := Lib.hid (by
             rw [← HGN.out x.dv, if_pos rfl]; rfl)
            obtain ⟨L0, hL0⟩ : ∃ z, z = y.qt - usedI ws (ps.take k) x.dv := ⟨_, rfl⟩
            have hsub : IntKind.i64.wrap (L0 - v.sz) = L0 - v.sz := IntWalk.i64_in _ (by have := HPM.out; omega)
            have HKEEP : Hid (0 ≤ L0 - v.sz → ∀ z ∈ hs, usedI ws (ps.take (k + 1)) z.dv ≤ z.qt) := Lib.hid (fun h0 => full_keep HND.out hs' hy2 hy3 (by rw [HUN.out]; omega) hall.out)
            have HFULL : Hid (L0 - v.sz < 0 → checkE ws hs ps = 7) := Lib.hid (fun h0 => by
             rw [HCK3.out, full_step HW.out (k := k) (p := x) hy2 hy3 (by rw [HUN.out]; omega)]; rfl)
            rw [← hL0] at HGN HGL HG2
            subst ea
            clear hs' hat hok HXM hy1 hy2 hy3 hnm h1 h2 h3 hy4 hur hqr hvr hgl hL0
            go_wp2_with (first
             | ((with_reducible show OpW 98); refine wpList_loadv _ rfl 85 (.tmp 97) rfl 3 (by kernel_rfl) g (o + k * 3) (plL x) (by go_simp) HA.out rfl ?_)
             | ((with_reducible show OpW 20); refine wpList_alloc _ rfl 85 rfl plZ plZero ?_; intro w3 a1 a2 a3; have HV3 := Lib.hid a1; have HX3 := Lib.hid a2; clear a1 a2 a3)
             | ((with_reducible show OpN); refine wpList_storev _ rfl 85 (.tmp 20) (.tmp 98) rfl 3 (by kernel_rfl) wu.heap.size 0 _ plZ (plL x) rfl rfl HV3.out rfl (one_pl x) (by decide) ?_; intro w4 a1 a2 a3; have HV4 : Hid (BL w4 wu.heap.size 85 (plL x)) := Lib.hid a1; have HX4 : Hid (Below wu.heap.size wu w4) := Lib.hid (((Kp.of_below (S := fun _ => False) HX3.out).after a2 (fun i hi e => by omega)).below (Nat.le_refl _) (fun _ h => h.elim)); clear a1 a2 a3; have HB4 := Lib.hid (below_thenB HBu.out HBu.out.size HX4.out); have HG4 := Lib.hid (hmg.out.kept HX4.out); have q0 := HV4.out.get (j := 0) rfl; have q2 := HV4.out.get (j := 2) rfl)
             | fail)
            refine Text.wp_region_text (fun w' => MG Tryz.prog 3 intV (.int .i64 0) w' vc.heap.size (gLV ws hs (ps.take k)) ∧ w'.cell? ⟨wu.heap.size, 2, none⟩ = some (.int .i64 x.dv)) [(0, 4), (1, 4), (4, 4), (5, 4), (6, 4), (7, 4), (2, 0), (3, 0), (8, 1), (9, 2), (10, 4), (11, 4), (12, 1), (13, 4), (14, 3)] (by kernel_rfl) (by kernel_rfl) (fun _ _ _ _ _ h => h) (⟨HG4.out.kept (Below.refl _ _).drew, HV4.out.drew.get (j := 2) rfl⟩) ?_
            iterate 6 (refine Text.purek rfl rfl (fun K hK => ⟨_, fun w' => by go_simp <;> rfl, ?_⟩); go_simp; refine hK _ ?_; clear hK K)
            (refine Text.heldk rfl rfl (fun K hK => ⟨_, fun w' hw' => by go_simp <;> rfl, ?_⟩); go_simp; refine hK _ ?_; clear hK K)
            refine Text.heldk rfl rfl (fun K hK => ?_)
            refine ⟨_, fun w' hw' => exec_lookG w' (.tmp 99) (.tmp 101) 84 3 3 rfl devKeyed mapII (.int .i64 0) intZero vc.heap.size _ rfl hw'.1 x.dv rfl HK.out, ?_⟩
            rw [HGL.out]
            go_simp
            refine hK _ ?_
            clear hK K
            (refine Text.readk rfl rfl (fun K hK => ⟨_, by go_simp <;> rfl, ?_⟩); go_simp; refine hK _ ?_; clear hK K)
            refine Text.eff rfl rfl (fun K hK => ?_)
            go_simp
            refine (find_any _ n c ws x.st _ (H.out.kept stay_wt HB4.out.drew)).mono ?_
            rintro e w5 ⟨rfl, b5⟩
            rw [HF.out]
            have HX5 := Lib.hid (below_then HX4.out.drew b5)
            have HB5 := Lib.hid (below_then HB4.out.drew b5)
            have HV5 := Lib.hid (HV4.out.drew.kept b5)
            have HG5 := Lib.hid (HG4.out.kept ((Below.refl _ _).drew.trans b5))
            obtain ⟨g9, o9, e9, _, h9⟩ := H.out.wt_at HB5.out HI.out
            cases e9
            have t1 := h9 1 _ rfl
            refine hK _ _ ⟨HG5.out, HV5.out.get (j := 2) rfl⟩ ?_
            clear hK K b5
            iterate 2 (refine Text.purek rfl rfl (fun K hK => ⟨_, fun w' => by go_simp <;> rfl, ?_⟩); go_simp; refine hK _ ?_; clear hK K)
            (refine Text.readk rfl rfl (fun K hK => ⟨_, by go_simp <;> rfl, ?_⟩); go_simp; refine hK _ ?_; clear hK K)
            (refine Text.purek rfl rfl (fun K hK => ⟨_, fun w' => by go_simp <;> rfl, ?_⟩); go_simp; refine hK _ ?_; clear hK K)
            refine Text.last rfl rfl (fun K hK => ?_)
            refine wp_updG _ intV_inj (.tmp 99) (.tmp 101) (.tmp 112) 84 3 3 rfl devKeyed mapII (.int .i64 0) vc.heap.size _ rfl HG5.out x.dv (intV (L0 - v.sz)) rfl (by first | rfl | (rw [hsub]; rfl)) HK.out ?_
            intro w6' a1 a2 a3
            have HG6 : Hid (MG Tryz.prog 3 intV (.int .i64 0) w6' vc.heap.size (gLV ws hs (ps.take (k + 1)))) := Lib.hid (a1.to (fun z => HGN.out z))
            have HK6 : Hid (Kp (fun b => b = vc.heap.size) wz w6') := Lib.hid ((hkq.out.trans (Kp.of_below HX5.out)).trans a2)
            have HV6 : Hid (BL w6' wu.heap.size 85 (plL x)) := Lib.hid (a2.bl HV5.out (fun e => by have := hmg.out.lt; omega))
            have HB6' : Hid (Below w.heap.size w w6') := Lib.hid (((Kp.of_below (S := fun b => b = vc.heap.size) HB5.out).trans a2).below (Nat.le_refl _) (fun i e => by have := HGB.out; omega))
            have r2 := HV6.out.get (j := 2) rfl
            clear a1 a2 a3
            go_simp
            refine hK _ _ ?_
            clear hK K
            refine Text.done ?_
            cases f1 : decide (L0 - v.sz < 0) with
            | true =>
             have HR : Hid (checkE ws hs ps = 7) := Lib.hid (HFULL.out (of_decide_eq_true f1))
             go_wp2_with (first
              | ((with_reducible show OpW 116); refine wpList_lookGv _ rfl (.tmp 113) (.tmp 115) 84 3 3 rfl devKeyed mapII (.int .i64 0) intZero vc.heap.size _ rfl HG6.out x.dv rfl HK.out (.int .i64 (L0 - v.sz)) HG2.out ?_))
             go_ret
             exact ⟨by rw [HR.out]; rfl, HB6'.out⟩
            | false =>
             have HAL2 := Lib.hid (HKEEP.out (by have := of_decide_eq_false f1; omega))
             go_wp2_with (first
              | ((with_reducible show OpW 116); refine wpList_lookGv _ rfl (.tmp 113) (.tmp 115) 84 3 3 rfl devKeyed mapII (.int .i64 0) intZero vc.heap.size _ rfl HG6.out x.dv rfl HK.out (.int .i64 (L0 - v.sz)) HG2.out ?_))
             go_roundw
             case rel => exact ⟨k + 1, by omega, by go_num, HG6, HAL2, HK6⟩
             case measure => simp [intOf]; omega
           ·
            obtain rfl : p = k := by omega
            rw [take_end HL.out] at hall
            have HR : Hid (checkE ws hs ps = 0) := Lib.hid (by
             rw [HCK3.out, if_neg]
             rw [Bool.not_eq_true, List.any_eq_false]
             intro x hx
             have := hall.out x hx
             simp; omega)
            go_wp2_with fail
            go_ret
            exact ⟨by rw [HR.out]; rfl, HBu.out⟩
end
end Go.Proofs.YtklfficlegfhjaaGreat
