/- Several texts in one: It, Sp, Cd, La. -/
import Derived.Test.YtgoefpbicohkfaaGreatDoorC28
import Derived.Test.YtgoefpbicohkfaaGreatDoorIter
/- slices.Sorted(maps.Keys(set)): what lay-iter.mjs printed, and its answer at a set of strings. -/
namespace Go.Proofs.YtgoefpbicohkfaaGreatDoor
open Go Go.RowKit Go.Maps Go.Sort Go.Shelf Go.ChangeMaps Gf Sha

theorem sorts_str (m : Nat) : AnyZ.SortsIn Tryz.prog Tryz.sorted80_ren Fence.wide m :=
  ⟨fun blk off cap ss W hH hblk hsz => callsIn_wide.2 (AnyM.slices_Sort_string Tryz.sort106 blk off cap ss W hH hblk hsz),
   fun p cap W => callsIn_wide.2 (AnyM.slices_Sort_string_none Tryz.sort106 p cap W)⟩
theorem keys_call (mb : Option Nat) (W : World) : Calls Tryz.prog 58 #[.map mb] W fun e w' => e = .returned (.func (.func 79) #[] #[.pointer (some ⟨W.heap.size, 0, none⟩)]) ∧ w' = W.alloc (.cells #[.map mb] 46) :=
  callsIn_wide.1 (AnyZ.keys_in Tryz.keys81 Fence.wide 5 trivial rfl mb W)
set_option maxHeartbeats 1000000 in
set_option maxRecDepth 100000 in
theorem sorted_call {H : Type} (b nn : Nat) (D0 : DataW H) (R : Value → Option (DataW H × List MemPlace)) (w : World) (hown : w.ownsMap Tryz.prog 9 R b nn D0) (hmax : Maps.size D0 ≤ maxLen) (hbytes : Maps.size D0 * 16 ≤ 140737488355328) :
    Calls Tryz.prog 57 #[.func (.func 79) #[] #[.pointer (some ⟨w.heap.size, 0, none⟩)]] (w.alloc (.cells #[.map (some b)] 46)) fun e w' => ∃ (v : Value) (ss : List (List UInt8)), e = .returned v ∧ ss.Perm (strKeys D0) ∧
      w'.ownsRow (w.alloc (.cells #[.map (some b)] 46)).heap.size 9 1 v ss.length ((ss.mergeSort (fun x y => decide (x ≤ y))).map encStr) ∧ (v = .slice none 0 0 ↔ ss = []) ∧ Below (w.alloc (.cells #[.map (some b)] 46)).heap.size (w.alloc (.cells #[.map (some b)] 46)) w' := by
  have hbl := hown.lt
  have hseq : SeqGives Fence.wide 2 Tryz.prog 79 #[.pointer (some ⟨w.heap.size, 0, none⟩)] encStr (fun ss => ss.Perm (strKeys D0)) (Maps.size D0) (w.alloc (.cells #[.map (some b)] 46)) :=
    AnyZ.keys_gives (ρ := Tryz.keys81_ren) { Tryz.keys81 with } Fence.wide _ trivial rfl (by omega) w.heap.size b nn D0 _ (by simp) (by simp) (by
      obtain ⟨es, clock, hb, Ft, hs, hD⟩ := hown
      exact ⟨es, clock, (Below.heap_alloc _ _ b hbl).trans hb, Ft, hs, hD⟩)
  exact callsIn_wide.1 (AnyZ.sorted_in Tryz.sorted80 Fence.wide 5 trivial trivial trivial trivial rfl (by omega) (sorts_str _) (enters_of Tryz.func78 (by kernel_rfl) rfl) 79 #[.pointer (some ⟨w.heap.size, 0, none⟩)] trivial (enters_of Tryz.func79 (by kernel_rfl) rfl) _ _ hmax hbytes _ hseq)

/-- A set of strings as a map. -/
def setF (S : List (List UInt8)) : List UInt8 → Option Value := fun y => if hasB S y then some (.bool true) else none
set_option maxRecDepth 100000 in
theorem set_keys {w : World} {b : Nat} {S : List (List UInt8)} (h : MF Tryz.prog 9 usC w b (setF S)) (hS : S.Pairwise (· < ·)) (hl : S.length ≤ maxLen) :
    ∃ D0 : DataW Unit, w.ownsMap Tryz.prog 9 (plainElem Tryz.prog 4) b S.length D0 ∧ (strKeys D0).Perm S ∧ Maps.size D0 = S.length := by
  obtain ⟨L, ⟨es, clock, hb, hst, hk, rfl⟩, h2, h3⟩ := h
  have hrd : ∀ e ∈ es.toList, ∃ x, WideElems.rd (H := Unit) Tryz.prog 9 (plainElem Tryz.prog 4) e = some (.string x, .lit (.bool true)) ∧ e.key = usC x ∧ x ∈ S := by
    intro e he
    have hm : (e.key, e.val) ∈ es.toList.map (fun e => (e.key, e.val)) := List.mem_map.2 ⟨e, he, rfl⟩
    obtain ⟨x, hx⟩ := h3 _ hm
    have hx' : e.key = usC x := hx
    have hf := (h2 x e.val).1 (by rw [← hx']; exact hm)
    unfold setF at hf
    split at hf
    · rename_i hh
      have hv : e.val = .bool true := by injection hf with hf; exact hf.symm
      obtain ⟨kl, hkl⟩ := hk e he
      rw [hx'] at hkl
      obtain ⟨y, hy1, _, hy2⟩ := Maps.keyOf_str Tryz.underlying9 hkl
      have hxy : x = y := strB_inj (by injection hy1)
      subst hxy
      refine ⟨x, ?_, hx', (hasB_iff S x).1 hh⟩
      obtain ⟨key, val, born⟩ := e
      simp only at hx' hv
      subst hx' hv
      have hko : keyOf Tryz.prog 9 (.string (strB x)) = some (.string (strB x).data.toList) := WideMaps.keyOf_string_mk Tryz.underlying9 (by rw [strB_size]; exact hy2)
      have := WideElems.rd_mk (H := Unit) (born := born) hko (plainElem_bool (P := Tryz.prog) Tryz.underlying4 true)
      rw [show (strB x).data.toList = x by simp [strB]] at this
      exact this
    · cases hf
  have hrg : ∀ e ∈ es.toList, usC (strOf (WideElems.rg (H := Unit) Tryz.prog 9 (plainElem Tryz.prog 4) e).1) = e.key ∧ strOf (WideElems.rg (H := Unit) Tryz.prog 9 (plainElem Tryz.prog 4) e).1 ∈ S := by
    intro e he
    obtain ⟨x, h4, h5, h6⟩ := hrd e he
    rw [WideElems.rg_of h4]
    exact ⟨h5.symm, h6⟩
  obtain ⟨ks, hks⟩ : ∃ ks, ks = es.toList.map (fun e => strOf (WideElems.rg (H := Unit) Tryz.prog 9 (plainElem Tryz.prog 4) e).1) := ⟨_, rfl⟩
  have e1 : ks.map usC = es.toList.map (·.key) := by
    rw [hks, List.map_map]
    exact List.map_congr_left (fun e he => (hrg e he).1)
  have hnd : ks.Nodup := by
    have : (ks.map usC).Nodup := by rw [e1]; exact hst.2.2
    exact (List.pairwise_map.1 this).imp (fun h e => h (congrArg usC e))
  have hp : ks.Perm S := (List.perm_ext_iff_of_nodup hnd (asc_nodup hS)).2 (fun x => by
    constructor
    · intro hx
      rw [hks] at hx
      obtain ⟨e, he, rfl⟩ := List.mem_map.1 hx
      exact (hrg e he).2
    · intro hx
      have hm := (h2 x (.bool true)).2 (by unfold setF; rw [(hasB_iff S x).2 hx]; rfl)
      obtain ⟨e, he, h5⟩ := List.mem_map.1 hm
      have h6 : e.key = usC x := congrArg Prod.fst h5
      rw [hks]
      refine List.mem_map.2 ⟨e, he, usC_in ?_⟩
      rw [(hrg e he).1, h6])
  have hlen : es.size = S.length := by
    have := hp.length_eq
    rw [hks, List.length_map] at this
    simpa using this
  refine ⟨.map ((es.toList.map (WideElems.rg (H := Unit) Tryz.prog 9 (plainElem Tryz.prog 4))).foldr DataW.insert []), ⟨es, clock, hb, ⟨by omega, hst, fun e he => ?_⟩, by omega, rfl⟩, ?_, ?_⟩
  · obtain ⟨x, h4, _⟩ := hrd e he
    exact ⟨_, h4⟩
  · refine List.Perm.trans ((WideShapes.sorted_perm (es.toList.map (WideElems.rg (H := Unit) Tryz.prog 9 (plainElem Tryz.prog 4)))).map fun p : Lit × DataW Unit => strOf p.1) ?_
    rw [List.map_map, show (es.toList.map ((fun p : Lit × DataW Unit => strOf p.1) ∘ WideElems.rg (H := Unit) Tryz.prog 9 (plainElem Tryz.prog 4))) = ks from by rw [hks]; exact List.map_congr_left (fun e _ => rfl)]
    exact hp
  · have := (WideShapes.sorted_perm (es.toList.map (WideElems.rg (H := Unit) Tryz.prog 9 (plainElem Tryz.prog 4)))).length_eq
    exact this.trans ((List.length_map _).trans (Array.length_toList.trans hlen))
theorem row_ol {w0 w : World} {v : Value} {S : List (List UInt8)} (h : w.ownsRow w0.heap.size 9 1 v S.length (S.map encStr)) (hS : ∀ x ∈ S, x.length ≤ reachBytes) : OL rStr 1 9 w0 w v S := by
  refine ⟨S.map fun x => [.string (strB x)], by simp, fun cs hcs => ?_, fun k hk hk' => ?_, ?_, fun b hb => (h.lt b hb).1⟩
  · obtain ⟨x, _, rfl⟩ := List.mem_map.1 hcs; rfl
  · exact ⟨by simp, hS _ (List.getElem_mem hk)⟩
  · have e : (S.map fun x => [Value.string (strB x)]).flatten = S.map encStr := by
      clear h hS
      induction S with
      | nil => rfl
      | cons a S ih => rw [List.map_cons, List.map_cons, List.flatten_cons, ih]; rfl
    rw [e]
    clear e
    obtain ⟨h1, h2⟩ := h
    refine ⟨h1, ?_⟩
    rcases h2 with h2 | ⟨g, cap, cur, rfl, _, hb, hn, hm, hs, ht⟩
    · exact .inl h2
    · exact .inr ⟨g, 0, cap, cur.toList, rfl, hb, hn, hm, by simp; omega, by simpa using ht⟩
/-- The keys of a set, sorted. -/
theorem keys_sorted (b : Nat) (S : List (List UInt8)) (w : World) (h : MF Tryz.prog 9 usC w b (setF S)) (hS : S.Pairwise (· < ·)) (hl : S.length ≤ 100000000) (hb : ∀ x ∈ S, x.length ≤ reachBytes) :
    Calls Tryz.prog 57 #[.func (.func 79) #[] #[.pointer (some ⟨w.heap.size, 0, none⟩)]] (w.alloc (.cells #[.map (some b)] 46)) fun e w' => ∃ A c, e = .returned (.slice A S.length c) ∧ LS rStr 1 16 w' A S.length c S ∧ (∀ a, A = some a → w.heap.size ≤ a.block) ∧ Below w.heap.size w w' := by
  obtain ⟨D0, h1, h2, h3⟩ := set_keys h hS (by unfold maxLen; omega)
  refine (sorted_call b _ D0 _ w h1 (by rw [h3]; unfold maxLen; omega) (by rw [h3]; omega)).mono ?_
  rintro e w' ⟨v, ss, rfl, hp, hrow, _, hbl⟩
  have he : ss.mergeSort (fun x y => decide (x ≤ y)) = S := sort_to (hp.trans h2) hS
  have hn : ss.length = S.length := (hp.trans h2).length_eq
  rw [he, hn] at hrow
  have ho := row_ol hrow hb
  have hb2 : Below w.heap.size w (w.alloc (.cells #[.map (some b)] 46)) := (Below.refl _ _).alloc (Nat.le_refl _) _
  obtain ⟨A, c, rfl, h9⟩ := ho.ls (b := 16) stay_str hbl (by unfold lim; omega)
  refine ⟨A, c, rfl, h9, fun a ha => ?_, below_then hb2 hbl⟩
  subst ha
  have := ho.own a.block rfl
  exact Nat.le_trans hb2.size this
end Go.Proofs.YtgoefpbicohkfaaGreatDoor
/- epoch.view: stripes. -/
namespace Go.Proofs.YtgoefpbicohkfaaGreatDoor
open Go Go.RowKit Go.ChangeMaps Gf Sha

/-- The stripes of proposals. -/
def stL (L : List Pp) : List (List UInt8) := L.flatMap (·.ss)
theorem setF_nil : (fun _ => none) = setF [] := rfl
theorem setF_add (S : List (List UInt8)) (x y : List UInt8) : (if y = x then some (.bool true) else setF S y) = setF (S ++ [x]) y := by
  unfold setF hasB
  rw [List.any_append]
  by_cases hy : y = x
  · subst hy; simp
  · rw [if_neg hy]
    simp [beq_eq_false_iff_ne.2 (fun e => hy (Eq.symm e) : x ≠ y)]
theorem setF_uniq (S : List (List UInt8)) (y : List UInt8) : setF S y = setF (uniqS S) y := by unfold setF; rw [uniq_has]
theorem stL_step {L : List Pp} {k : Nat} {x : Pp} (h : L[k]? = some x) (q : Pp → Bool) : stL ((L.take (k + 1)).filter q) = stL ((L.take k).filter q) ++ (if q x then x.ss else []) := by
  rw [filt_step h]
  unfold stL
  rw [List.flatMap_append]
  cases q x <;> simp
theorem stL_mem {L : List Pp} {s : List UInt8} (h : s ∈ stL L) : ∃ p ∈ L, s ∈ p.ss := by
  obtain ⟨p, h1, h2⟩ := List.mem_flatMap.1 h
  exact ⟨p, h1, h2⟩
theorem valid_ss {p : Pp} (h : validB p = true) : p.ss.length ≤ 1024 ∧ ∀ s ∈ p.ss, s.length = 32 := by
  exact ⟨(valid_p h).s2, (valid_p h).ss⟩
theorem stL_len : ∀ {L : List Pp}, (∀ p ∈ L, validB p = true) → (stL L).length ≤ 1024 * L.length
  | [], _ => by simp [stL]
  | a :: L, h => by
    have h1 := (valid_ss (h a (by simp))).1
    have h2 := stL_len (L := L) (fun p hp => h p (by simp [hp]))
    unfold stL at h2 ⊢
    rw [List.flatMap_cons, List.length_append, List.length_cons]
    omega
/-- The stripes of the chosen proposals. -/
def strL (D : List En) (V : Int) (q : Pp → Bool) : List (List UInt8) := uniqS (stL ((ofL D V).filter q))
theorem strL_ok {D : List En} {V : Int} {q : Pp → Bool} {s : List UInt8} (h : s ∈ strL D V q) : s.length = 32 := by
  obtain ⟨p, h1, h2⟩ := stL_mem ((uniq_mem _ _).1 h)
  exact (valid_ss (ofL_valid (List.mem_filter.1 h1).1)).2 s h2
theorem strL_len {D : List En} {V : Int} {q : Pp → Bool} (h : (ppL D).length ≤ 2000) : (strL D V q).length ≤ 2048000 := by
  have h1 := uniq_len (stL ((ofL D V).filter q))
  have h2 := stL_len (L := (ofL D V).filter q) (fun p hp => ofL_valid (List.mem_filter.1 hp).1)
  have h3 := List.length_filter_le q (ofL D V)
  have h4 : (ofL D V).length ≤ (ppL D).length := List.length_filter_le _ _
  unfold strL
  omega
/-- A list of strings in new memory. -/
def StrN (S : List (List UInt8)) (w : World) (e : Ending) (w' : World) : Prop := ∃ A c, e = .returned (.slice A S.length c) ∧ LS rStr 1 16 w' A S.length c S ∧ (∀ a, A = some a → w.heap.size ≤ a.block) ∧ Below w.heap.size w w'
section
set_option maxRecDepth 100000
set_option maxHeartbeats 4000000
theorem stripes_cond (cv : List Value) (D : List En) (V : Int) (ga gb : Nat) (q : Pp → Bool) (w : World) (hv : View w cv D) (hn : (ppL D).length ≤ 2000)
    (hc : ∀ (w1 : World) (cs : List Value) (x : Pp), Below w.heap.size w w1 → rPpV w1 cs x → Calls Tryz.prog 30 #[.agg cs.toArray, .pointer (some ⟨ga, 0, none⟩), .pointer (some ⟨gb, 0, none⟩)] w1 fun e w' => e = .returned (.bool (q x)) ∧ Below w1.heap.size w1 w') :
    Calls Tryz.prog 29 #[.agg cv.toArray, .int .i64 V, .func (.func 30) #[] #[.pointer (some ⟨ga, 0, none⟩), .pointer (some ⟨gb, 0, none⟩)]] w (StrN (strL D V q) w) := by
  have HC := Lib.hid hc
  have HN : Hid ((ppL D).length ≤ 2000) := Lib.hid hn
  have HN6 : Hid ((ppL D).length ≤ 1000000) := Lib.hid (by omega)
  have HVW := Lib.hid hv
  obtain ⟨AA, nn, cc, bv, vs, f, rfl, _⟩ := hv
  have HS : Hid ((ofL D V).length ≤ 2000) := Lib.hid (Nat.le_trans (List.length_filter_le _ _) hn)
  clear hc hn
  go_enter Tryz.func29, Tryz.ntmps29
  go_wp2_with (first
    | ((with_reducible show wpList _ _ _ (⟨some 3, _, _, _, _, _⟩ :: _) _ _); refine wpList_box _ rfl 60 (.tmp 0) rfl [.slice AA nn cc, .map (some bv)] rfl ?_; intro w1 y1 y2 y3; have HW1 := Lib.hid y1; have HV1 := Lib.hid (HVW.out.kept y2); have HB1 := Lib.hid y2; clear y1 y2 y3)
    | ((with_reducible show wpList _ _ _ (⟨some 12, _, _, _, _, _⟩ :: _) _ _); refine wpList_makeF (enc := usC) _ rfl 46 9 rfl ?_; intro w2 y1 y2 y3; have HM2 := Lib.hid y1; have HV2 := Lib.hid (HV1.out.kept y2); have HW2 := Lib.hid (HW1.out.kept y2); have HB2 := Lib.hid (below_then HB1.out y2); clear y1 y2 y3)
    | ((with_reducible show wpList _ _ _ (⟨some 13, _, _, _, _, _⟩ :: _) _ _); refine wpList_loadv _ rfl 60 (.tmp 3) rfl 2 (by kernel_rfl) w.heap.size 0 _ rfl (BL.all HW2.out) rfl ?_)
    | (go_at_call 35; refine (of_any _ D V w2 HV2.out HN6.out).mono ?_; rintro e w3 ⟨A3, n3, c3, rfl, x1, x2, x3⟩; have HL3 := Lib.hid (x1.valid (fun p hp => ofL_valid hp)); have HLN := Lib.hid x1.1.1; have hn3 := x1.1.len_le; have HM3 := Lib.hid (HM2.out.kept x3); have HB3 := Lib.hid (below_then HB2.out x3); clear x1 x2 x3))
  go_loopw [17] (fun iv wr => ∃ k : Nat, k ≤ n3 ∧ iv = .int .i64 (k : Int) ∧ Hid (MF Tryz.prog 9 usC wr w1.heap.size (setF (stL (((ofL D V).take k).filter q)))) ∧ Hid (Kp (· = w1.heap.size) w3 wr)) (fun iv _ => n3 - (intOf iv).toNat)
  case atStart => exact ⟨0, by omega, rfl, HM3, Lib.hid (Kp.refl _ _)⟩
  case round =>
    obtain ⟨k, hk, rfl, hm, hkp⟩ := hrel
    obtain ⟨wx, hwx⟩ : ∃ x, x = wr := ⟨_, rfl⟩
    rw [← hwx] at hm hkp ⊢
    clear hwx
    have HBx : Hid (Below w.heap.size w wx) := Lib.hid (low_kp HB3.out hkp.out (fun i hi e => by have := HB1.out.size; omega))
    by_cases hlt : k < n3
    · have hLx : LT rPpV 5 72 34 wx A3 n3 c3 (ofL D V) := HL3.out.kp hkp.out (fun a ea => by obtain ⟨l, hl⟩ := HL3.out.2 a ea; exact HM3.out.ne_bl hl) (fun cs x h => ⟨h.1.kp hkp.out (fun i t l hl _ => HM3.out.ne_bl hl), h.2⟩)
      obtain ⟨x, g, o, cs, hs, ea, hat, hr⟩ := hLx.1.at_ stay_ppv (Below.refl _ _) hlt
      have HR := Lib.hid hr
      obtain ⟨⟨⟨A1, n1, c1, A2, n2, c2, rfl, _, h2, _⟩, hpt⟩, hval⟩ := hr
      have HX := Lib.hid hs
      have HA := Lib.hid hat
      have HST := Lib.hid h2
      have HVL := Lib.hid hval
      have HNB : Hid (∀ a, A2 = some a → ¬ a.block = w1.heap.size) := Lib.hid (fun a e => by obtain ⟨t, l, hl, _⟩ := hpt A2 n2 c2 (by simp [ppC]) a e; exact hm.out.ne_bl hl)
      have hn2 := h2.len_le
      subst ea
      clear hs hat hpt hval h2 hLx
      cases h1 : q x with
      | false =>
        have HST1 : Hid (stL (((ofL D V).take (k + 1)).filter q) = stL (((ofL D V).take k).filter q)) := Lib.hid (by rw [stL_step HX.out, h1]; simp)
        go_wp2_with (first
          | ((with_reducible show wpList _ _ _ (⟨some 20, _, _, _, _, _⟩ :: _) _ _); refine wpList_loadv _ rfl 34 (.tmp 19) rfl 5 (by kernel_rfl) g (o + k * 5) (ppC x A1 n1 c1 A2 n2 c2) (by go_simp) HA.out rfl ?_)
          | ((with_reducible show wpList _ _ _ (⟨some 9, _, _, _, _, _⟩ :: _) _ _); refine wpList_alloc _ rfl 34 rfl ppZ ppZero ?_; intro w4 a1 a2 a3; have HV4 := Lib.hid a1; have HX4 := Lib.hid a2; clear a1 a2 a3)
          | ((with_reducible show wpList _ _ _ (⟨none, _, _, _, _, _⟩ :: _) _ _); refine wpList_storev _ rfl 34 (.tmp 9) (.tmp 20) rfl 5 (by kernel_rfl) wx.heap.size 0 _ ppZ (ppC x A1 n1 c1 A2 n2 c2) rfl rfl HV4.out rfl (one_val _ rfl) (by decide) ?_; intro w5 a1 a2 a3; have HV5 : Hid (BL w5 wx.heap.size 34 (ppC x A1 n1 c1 A2 n2 c2)) := Lib.hid a1; have HX5 : Hid (Below wx.heap.size wx w5) := Lib.hid (((Kp.of_below (S := fun _ => False) HX4.out).after a2 (fun i hi e => by omega)).below (Nat.le_refl _) (fun _ h => h.elim)); clear a1 a2 a3)
          | ((with_reducible show wpList _ _ _ (⟨some 22, _, _, _, _, _⟩ :: _) _ _); refine wpList_loadv _ rfl 34 (.tmp 9) rfl 5 (by kernel_rfl) wx.heap.size 0 (ppC x A1 n1 c1 A2 n2 c2) rfl (BL.all HV5.out) rfl ?_)
          | (go_at_call 30; refine (HC.out w5 _ x (below_thenB HBx.out HBx.out.size HX5.out) (stay_ppv _ _ _ _ HR.out HX5.out)).mono ?_; rintro e w6 ⟨rfl, bl⟩; rw [h1]; have HX6 := Lib.hid (below_then HX5.out bl); clear bl))
        go_roundw
        case rel => exact ⟨k + 1, by omega, by go_num, Lib.hid (by rw [HST1.out]; exact hm.out.kept HX6.out), Lib.hid (hkp.out.then HX6.out)⟩
        case measure => simp [intOf]; omega
      | true =>
        have HST1 : Hid (stL (((ofL D V).take (k + 1)).filter q) = stL (((ofL D V).take k).filter q) ++ x.ss) := Lib.hid (by rw [stL_step HX.out, h1]; simp)
        obtain ⟨acc, hacc⟩ : ∃ acc, acc = stL (((ofL D V).take k).filter q) := ⟨_, rfl⟩
        rw [← hacc] at hm HST1
        go_wp2_with (first
          | ((with_reducible show wpList _ _ _ (⟨some 20, _, _, _, _, _⟩ :: _) _ _); refine wpList_loadv _ rfl 34 (.tmp 19) rfl 5 (by kernel_rfl) g (o + k * 5) (ppC x A1 n1 c1 A2 n2 c2) (by go_simp) HA.out rfl ?_)
          | ((with_reducible show wpList _ _ _ (⟨some 9, _, _, _, _, _⟩ :: _) _ _); refine wpList_alloc _ rfl 34 rfl ppZ ppZero ?_; intro w4 a1 a2 a3; have HV4 := Lib.hid a1; have HX4 := Lib.hid a2; clear a1 a2 a3)
          | ((with_reducible show wpList _ _ _ (⟨none, _, _, _, _, _⟩ :: _) _ _); refine wpList_storev _ rfl 34 (.tmp 9) (.tmp 20) rfl 5 (by kernel_rfl) wx.heap.size 0 _ ppZ (ppC x A1 n1 c1 A2 n2 c2) rfl rfl HV4.out rfl (one_val _ rfl) (by decide) ?_; intro w5 a1 a2 a3; have HV5 : Hid (BL w5 wx.heap.size 34 (ppC x A1 n1 c1 A2 n2 c2)) := Lib.hid a1; have HX5 : Hid (Below wx.heap.size wx w5) := Lib.hid (((Kp.of_below (S := fun _ => False) HX4.out).after a2 (fun i hi e => by omega)).below (Nat.le_refl _) (fun _ h => h.elim)); clear a1 a2 a3)
          | ((with_reducible show wpList _ _ _ (⟨some 22, _, _, _, _, _⟩ :: _) _ _); refine wpList_loadv _ rfl 34 (.tmp 9) rfl 5 (by kernel_rfl) wx.heap.size 0 (ppC x A1 n1 c1 A2 n2 c2) rfl (BL.all HV5.out) rfl ?_)
          | (go_at_call 30; refine (HC.out w5 _ x (below_thenB HBx.out HBx.out.size HX5.out) (stay_ppv _ _ _ _ HR.out HX5.out)).mono ?_; rintro e w6 ⟨rfl, bl⟩; rw [h1]; have q4 := (HV5.out.kept bl).get (j := 4) rfl; have HX6 := Lib.hid (below_then HX5.out bl); have HM6 := Lib.hid (hm.out.kept HX6.out); have HS6 := Lib.hid (HST.out.kept stay_str HX6.out); clear bl))
        go_loopw [28] (fun iv wr => ∃ j : Nat, j ≤ n2 ∧ iv = .int .i64 (j : Int) ∧ Hid (MF Tryz.prog 9 usC wr w1.heap.size (setF (acc ++ x.ss.take j))) ∧ Hid (Kp (· = w1.heap.size) w6 wr)) (fun iv _ => n2 - (intOf iv).toNat)
        case atStart => exact ⟨0, by omega, rfl, Lib.hid (by rw [List.take_zero, List.append_nil]; exact HM6.out), Lib.hid (Kp.refl _ _)⟩
        case round =>
          obtain ⟨j, hj, rfl, hmj, hkj⟩ := hrel
          have HSj : Hid (LS rStr 1 16 wr A2 n2 c2 x.ss) := Lib.hid (HS6.out.kpn (fun _ _ h => h) hkj.out HNB.out)
          by_cases hjn : j < n2
          · obtain ⟨s, g', o', hs, ea, q0⟩ := HSj.out.str_at (Below.refl _ _) hjn
            have HSX := Lib.hid hs
            have HKS := Lib.hid (keyS s (reach_key (HSj.out.str_ok hs)))
            subst ea
            clear hs
            go_wp2_with (first
              | ((with_reducible show wpList _ _ _ (⟨none, _, _, _, _, _⟩ :: _) _ _); refine wpList_updF _ (fun x y h => usC_in h) rfl (.tmp 32) (.tmp 33) (.const (.bool true)) 46 9 4 rfl strKeyed mapSB w1.heap.size _ rfl hmj.out s (.bool true) rfl rfl HKS.out ?_; intro w7 y1 y2 y3; have HM7 := Lib.hid y1; have HK7 := Lib.hid y2; clear y1 y2 y3))
            go_roundw
            case rel =>
              refine ⟨j + 1, by omega, by go_num, Lib.hid (HM7.out.to (fun y => ?_)), Lib.hid (hkj.out.trans HK7.out)⟩
              rw [setF_add, take_next HSX.out, List.append_assoc]
            case measure => simp [intOf]; omega
          · obtain rfl : j = n2 := by omega
            rw [take_end HS6.out.1] at hmj
            go_wp2_with fail
            go_roundw
            case rel => exact ⟨k + 1, by omega, by go_num, Lib.hid (by rw [HST1.out]; exact hmj.out), Lib.hid ((hkp.out.then HX6.out).trans hkj.out)⟩
            case measure => simp [intOf]; omega
    · obtain rfl : k = n3 := by omega
      rw [take_end HLN.out] at hm
      have HMU : Hid (MF Tryz.prog 9 usC wx w1.heap.size (setF (strL D V q))) := Lib.hid (hm.out.to (fun y => setF_uniq _ y))
      have HLS : Hid ((strL D V q).length ≤ 100000000) := Lib.hid (by have := strL_len (V := V) (q := q) HN.out; omega)
      have HOK : Hid (∀ s ∈ strL D V q, s.length ≤ reachBytes) := Lib.hid (fun s hs => by rw [strL_ok hs]; unfold reachBytes; omega)
      go_wp2_with (first
        | (go_at_call 58; refine (keys_call _ wx).mono ?_; rintro e w7 ⟨rfl, rfl⟩)
        | (go_at_call 57; refine (keys_sorted _ _ wx HMU.out (uniq_asc _) HLS.out HOK.out).mono ?_; rintro e w8 ⟨A8, c8, rfl, x1, x2, x3⟩; have HR8 := Lib.hid x1; have HO8 := Lib.hid x2; have HB8 := Lib.hid (below_thenB HBx.out HBx.out.size x3); clear x1 x2 x3))
      go_ret
      exact ⟨A8, c8, rfl, HR8.out, fun a e => Nat.le_trans HBx.out.size (HO8.out a e), HB8.out⟩
theorem stripes_drop (cv : List Value) (D : List En) (V : Int) (ga gb : Nat) (q : Pp → Bool) (w : World) (hv : View w cv D) (hn : (ppL D).length ≤ 2000)
    (hc : ∀ (w1 : World) (cs : List Value) (x : Pp), Below w.heap.size w w1 → rPpV w1 cs x → Calls Tryz.prog 33 #[.agg cs.toArray, .pointer (some ⟨ga, 0, none⟩), .pointer (some ⟨gb, 0, none⟩)] w1 fun e w' => e = .returned (.bool (q x)) ∧ Below w1.heap.size w1 w') :
    Calls Tryz.prog 29 #[.agg cv.toArray, .int .i64 V, .func (.func 33) #[] #[.pointer (some ⟨ga, 0, none⟩), .pointer (some ⟨gb, 0, none⟩)]] w (StrN (strL D V q) w) := by
  have HC := Lib.hid hc
  have HN : Hid ((ppL D).length ≤ 2000) := Lib.hid hn
  have HN6 : Hid ((ppL D).length ≤ 1000000) := Lib.hid (by omega)
  have HVW := Lib.hid hv
  obtain ⟨AA, nn, cc, bv, vs, f, rfl, _⟩ := hv
  have HS : Hid ((ofL D V).length ≤ 2000) := Lib.hid (Nat.le_trans (List.length_filter_le _ _) hn)
  clear hc hn
  go_enter Tryz.func29, Tryz.ntmps29
  go_wp2_with (first
    | ((with_reducible show wpList _ _ _ (⟨some 3, _, _, _, _, _⟩ :: _) _ _); refine wpList_box _ rfl 60 (.tmp 0) rfl [.slice AA nn cc, .map (some bv)] rfl ?_; intro w1 y1 y2 y3; have HW1 := Lib.hid y1; have HV1 := Lib.hid (HVW.out.kept y2); have HB1 := Lib.hid y2; clear y1 y2 y3)
    | ((with_reducible show wpList _ _ _ (⟨some 12, _, _, _, _, _⟩ :: _) _ _); refine wpList_makeF (enc := usC) _ rfl 46 9 rfl ?_; intro w2 y1 y2 y3; have HM2 := Lib.hid y1; have HV2 := Lib.hid (HV1.out.kept y2); have HW2 := Lib.hid (HW1.out.kept y2); have HB2 := Lib.hid (below_then HB1.out y2); clear y1 y2 y3)
    | ((with_reducible show wpList _ _ _ (⟨some 13, _, _, _, _, _⟩ :: _) _ _); refine wpList_loadv _ rfl 60 (.tmp 3) rfl 2 (by kernel_rfl) w.heap.size 0 _ rfl (BL.all HW2.out) rfl ?_)
    | (go_at_call 35; refine (of_any _ D V w2 HV2.out HN6.out).mono ?_; rintro e w3 ⟨A3, n3, c3, rfl, x1, x2, x3⟩; have HL3 := Lib.hid (x1.valid (fun p hp => ofL_valid hp)); have HLN := Lib.hid x1.1.1; have hn3 := x1.1.len_le; have HM3 := Lib.hid (HM2.out.kept x3); have HB3 := Lib.hid (below_then HB2.out x3); clear x1 x2 x3))
  go_loopw [17] (fun iv wr => ∃ k : Nat, k ≤ n3 ∧ iv = .int .i64 (k : Int) ∧ Hid (MF Tryz.prog 9 usC wr w1.heap.size (setF (stL (((ofL D V).take k).filter q)))) ∧ Hid (Kp (· = w1.heap.size) w3 wr)) (fun iv _ => n3 - (intOf iv).toNat)
  case atStart => exact ⟨0, by omega, rfl, HM3, Lib.hid (Kp.refl _ _)⟩
  case round =>
    obtain ⟨k, hk, rfl, hm, hkp⟩ := hrel
    obtain ⟨wx, hwx⟩ : ∃ x, x = wr := ⟨_, rfl⟩
    rw [← hwx] at hm hkp ⊢
    clear hwx
    have HBx : Hid (Below w.heap.size w wx) := Lib.hid (low_kp HB3.out hkp.out (fun i hi e => by have := HB1.out.size; omega))
    by_cases hlt : k < n3
    · have hLx : LT rPpV 5 72 34 wx A3 n3 c3 (ofL D V) := HL3.out.kp hkp.out (fun a ea => by obtain ⟨l, hl⟩ := HL3.out.2 a ea; exact HM3.out.ne_bl hl) (fun cs x h => ⟨h.1.kp hkp.out (fun i t l hl _ => HM3.out.ne_bl hl), h.2⟩)
      obtain ⟨x, g, o, cs, hs, ea, hat, hr⟩ := hLx.1.at_ stay_ppv (Below.refl _ _) hlt
      have HR := Lib.hid hr
      obtain ⟨⟨⟨A1, n1, c1, A2, n2, c2, rfl, _, h2, _⟩, hpt⟩, hval⟩ := hr
      have HX := Lib.hid hs
      have HA := Lib.hid hat
      have HST := Lib.hid h2
      have HVL := Lib.hid hval
      have HNB : Hid (∀ a, A2 = some a → ¬ a.block = w1.heap.size) := Lib.hid (fun a e => by obtain ⟨t, l, hl, _⟩ := hpt A2 n2 c2 (by simp [ppC]) a e; exact hm.out.ne_bl hl)
      have hn2 := h2.len_le
      subst ea
      clear hs hat hpt hval h2 hLx
      cases h1 : q x with
      | false =>
        have HST1 : Hid (stL (((ofL D V).take (k + 1)).filter q) = stL (((ofL D V).take k).filter q)) := Lib.hid (by rw [stL_step HX.out, h1]; simp)
        go_wp2_with (first
          | ((with_reducible show wpList _ _ _ (⟨some 20, _, _, _, _, _⟩ :: _) _ _); refine wpList_loadv _ rfl 34 (.tmp 19) rfl 5 (by kernel_rfl) g (o + k * 5) (ppC x A1 n1 c1 A2 n2 c2) (by go_simp) HA.out rfl ?_)
          | ((with_reducible show wpList _ _ _ (⟨some 9, _, _, _, _, _⟩ :: _) _ _); refine wpList_alloc _ rfl 34 rfl ppZ ppZero ?_; intro w4 a1 a2 a3; have HV4 := Lib.hid a1; have HX4 := Lib.hid a2; clear a1 a2 a3)
          | ((with_reducible show wpList _ _ _ (⟨none, _, _, _, _, _⟩ :: _) _ _); refine wpList_storev _ rfl 34 (.tmp 9) (.tmp 20) rfl 5 (by kernel_rfl) wx.heap.size 0 _ ppZ (ppC x A1 n1 c1 A2 n2 c2) rfl rfl HV4.out rfl (one_val _ rfl) (by decide) ?_; intro w5 a1 a2 a3; have HV5 : Hid (BL w5 wx.heap.size 34 (ppC x A1 n1 c1 A2 n2 c2)) := Lib.hid a1; have HX5 : Hid (Below wx.heap.size wx w5) := Lib.hid (((Kp.of_below (S := fun _ => False) HX4.out).after a2 (fun i hi e => by omega)).below (Nat.le_refl _) (fun _ h => h.elim)); clear a1 a2 a3)
          | ((with_reducible show wpList _ _ _ (⟨some 22, _, _, _, _, _⟩ :: _) _ _); refine wpList_loadv _ rfl 34 (.tmp 9) rfl 5 (by kernel_rfl) wx.heap.size 0 (ppC x A1 n1 c1 A2 n2 c2) rfl (BL.all HV5.out) rfl ?_)
          | (go_at_call 33; refine (HC.out w5 _ x (below_thenB HBx.out HBx.out.size HX5.out) (stay_ppv _ _ _ _ HR.out HX5.out)).mono ?_; rintro e w6 ⟨rfl, bl⟩; rw [h1]; have HX6 := Lib.hid (below_then HX5.out bl); clear bl))
        go_roundw
        case rel => exact ⟨k + 1, by omega, by go_num, Lib.hid (by rw [HST1.out]; exact hm.out.kept HX6.out), Lib.hid (hkp.out.then HX6.out)⟩
        case measure => simp [intOf]; omega
      | true =>
        have HST1 : Hid (stL (((ofL D V).take (k + 1)).filter q) = stL (((ofL D V).take k).filter q) ++ x.ss) := Lib.hid (by rw [stL_step HX.out, h1]; simp)
        obtain ⟨acc, hacc⟩ : ∃ acc, acc = stL (((ofL D V).take k).filter q) := ⟨_, rfl⟩
        rw [← hacc] at hm HST1
        go_wp2_with (first
          | ((with_reducible show wpList _ _ _ (⟨some 20, _, _, _, _, _⟩ :: _) _ _); refine wpList_loadv _ rfl 34 (.tmp 19) rfl 5 (by kernel_rfl) g (o + k * 5) (ppC x A1 n1 c1 A2 n2 c2) (by go_simp) HA.out rfl ?_)
          | ((with_reducible show wpList _ _ _ (⟨some 9, _, _, _, _, _⟩ :: _) _ _); refine wpList_alloc _ rfl 34 rfl ppZ ppZero ?_; intro w4 a1 a2 a3; have HV4 := Lib.hid a1; have HX4 := Lib.hid a2; clear a1 a2 a3)
          | ((with_reducible show wpList _ _ _ (⟨none, _, _, _, _, _⟩ :: _) _ _); refine wpList_storev _ rfl 34 (.tmp 9) (.tmp 20) rfl 5 (by kernel_rfl) wx.heap.size 0 _ ppZ (ppC x A1 n1 c1 A2 n2 c2) rfl rfl HV4.out rfl (one_val _ rfl) (by decide) ?_; intro w5 a1 a2 a3; have HV5 : Hid (BL w5 wx.heap.size 34 (ppC x A1 n1 c1 A2 n2 c2)) := Lib.hid a1; have HX5 : Hid (Below wx.heap.size wx w5) := Lib.hid (((Kp.of_below (S := fun _ => False) HX4.out).after a2 (fun i hi e => by omega)).below (Nat.le_refl _) (fun _ h => h.elim)); clear a1 a2 a3)
          | ((with_reducible show wpList _ _ _ (⟨some 22, _, _, _, _, _⟩ :: _) _ _); refine wpList_loadv _ rfl 34 (.tmp 9) rfl 5 (by kernel_rfl) wx.heap.size 0 (ppC x A1 n1 c1 A2 n2 c2) rfl (BL.all HV5.out) rfl ?_)
          | (go_at_call 33; refine (HC.out w5 _ x (below_thenB HBx.out HBx.out.size HX5.out) (stay_ppv _ _ _ _ HR.out HX5.out)).mono ?_; rintro e w6 ⟨rfl, bl⟩; rw [h1]; have q4 := (HV5.out.kept bl).get (j := 4) rfl; have HX6 := Lib.hid (below_then HX5.out bl); have HM6 := Lib.hid (hm.out.kept HX6.out); have HS6 := Lib.hid (HST.out.kept stay_str HX6.out); clear bl))
        go_loopw [28] (fun iv wr => ∃ j : Nat, j ≤ n2 ∧ iv = .int .i64 (j : Int) ∧ Hid (MF Tryz.prog 9 usC wr w1.heap.size (setF (acc ++ x.ss.take j))) ∧ Hid (Kp (· = w1.heap.size) w6 wr)) (fun iv _ => n2 - (intOf iv).toNat)
        case atStart => exact ⟨0, by omega, rfl, Lib.hid (by rw [List.take_zero, List.append_nil]; exact HM6.out), Lib.hid (Kp.refl _ _)⟩
        case round =>
          obtain ⟨j, hj, rfl, hmj, hkj⟩ := hrel
          have HSj : Hid (LS rStr 1 16 wr A2 n2 c2 x.ss) := Lib.hid (HS6.out.kpn (fun _ _ h => h) hkj.out HNB.out)
          by_cases hjn : j < n2
          · obtain ⟨s, g', o', hs, ea, q0⟩ := HSj.out.str_at (Below.refl _ _) hjn
            have HSX := Lib.hid hs
            have HKS := Lib.hid (keyS s (reach_key (HSj.out.str_ok hs)))
            subst ea
            clear hs
            go_wp2_with (first
              | ((with_reducible show wpList _ _ _ (⟨none, _, _, _, _, _⟩ :: _) _ _); refine wpList_updF _ (fun x y h => usC_in h) rfl (.tmp 32) (.tmp 33) (.const (.bool true)) 46 9 4 rfl strKeyed mapSB w1.heap.size _ rfl hmj.out s (.bool true) rfl rfl HKS.out ?_; intro w7 y1 y2 y3; have HM7 := Lib.hid y1; have HK7 := Lib.hid y2; clear y1 y2 y3))
            go_roundw
            case rel =>
              refine ⟨j + 1, by omega, by go_num, Lib.hid (HM7.out.to (fun y => ?_)), Lib.hid (hkj.out.trans HK7.out)⟩
              rw [setF_add, take_next HSX.out, List.append_assoc]
            case measure => simp [intOf]; omega
          · obtain rfl : j = n2 := by omega
            rw [take_end HS6.out.1] at hmj
            go_wp2_with fail
            go_roundw
            case rel => exact ⟨k + 1, by omega, by go_num, Lib.hid (by rw [HST1.out]; exact hmj.out), Lib.hid ((hkp.out.then HX6.out).trans hkj.out)⟩
            case measure => simp [intOf]; omega
    · obtain rfl : k = n3 := by omega
      rw [take_end HLN.out] at hm
      have HMU : Hid (MF Tryz.prog 9 usC wx w1.heap.size (setF (strL D V q))) := Lib.hid (hm.out.to (fun y => setF_uniq _ y))
      have HLS : Hid ((strL D V q).length ≤ 100000000) := Lib.hid (by have := strL_len (V := V) (q := q) HN.out; omega)
      have HOK : Hid (∀ s ∈ strL D V q, s.length ≤ reachBytes) := Lib.hid (fun s hs => by rw [strL_ok hs]; unfold reachBytes; omega)
      go_wp2_with (first
        | (go_at_call 58; refine (keys_call _ wx).mono ?_; rintro e w7 ⟨rfl, rfl⟩)
        | (go_at_call 57; refine (keys_sorted _ _ wx HMU.out (uniq_asc _) HLS.out HOK.out).mono ?_; rintro e w8 ⟨A8, c8, rfl, x1, x2, x3⟩; have HR8 := Lib.hid x1; have HO8 := Lib.hid x2; have HB8 := Lib.hid (below_thenB HBx.out HBx.out.size x3); clear x1 x2 x3))
      go_ret
      exact ⟨A8, c8, rfl, HR8.out, fun a e => Nat.le_trans HBx.out.size (HO8.out a e), HB8.out⟩
end
end Go.Proofs.YtgoefpbicohkfaaGreatDoor
/- epoch.Condemned, epoch.Dropped. -/
namespace Go.Proofs.YtgoefpbicohkfaaGreatDoor
open Go Go.RowKit Go.ChangeMaps Gf Sha

def condL (D : List En) (V u : Int) : List (List UInt8) := strL D V (condN D u)
def dropL (D : List En) (V : Int) (ex : List Int) : List (List UInt8) := strL D V (fun p => stateOf D p ex == 3)
section
set_option maxRecDepth 100000
set_option maxHeartbeats 4000000
theorem condemned_any (A : Option Addr) (n c : Nat) (es : List En) (V u : Int) (w : World) (h : LS rEn 6 72 w A n c es) (hn : n ≤ 2000) (hu : wfI u) :
    Calls Tryz.prog 11 #[.slice A n c, .int .i64 V, .int .i64 u] w (StrN (condL (dd es) V u) w) := by
  have HL : Hid ((ppL (dd es)).length ≤ 2000) := Lib.hid (by have := ppl_len es; have := h.1; omega)
  have H := Lib.hid h
  have HN := Lib.hid hn
  have HU := Lib.hid hu
  clear h hn hu
  have hmf : ∀ (fn : Fn) (first cap : Array Value) (w : World), (Instr.makeFunc fn first cap).run Tryz.prog w = .ok (.func fn first cap) w := fun _ _ _ _ => rfl
  go_enter Tryz.func11, Tryz.ntmps11
  go_wp2_with (first
    | ((with_reducible show wpList _ _ _ (⟨some 5, _, _, _, _, _⟩ :: _) _ _); refine wpList_box1 _ rfl 3 (.tmp 2) rfl _ rfl rfl ?_; intro w1 y1 y2 y3; have HI1 := Lib.hid y1; have HB1 := Lib.hid y2; clear y1 y2 y3)
    | (go_at_call 25; refine (newView_any A n c es w1 (H.out.kept stay_en HB1.out) HN.out).mono ?_; rintro e w2 ⟨cv, rfl, x1, x2⟩; have HV2 := Lib.hid x1; have HI2 := Lib.hid (HI1.out.kept x2); have HB2 := Lib.hid (below_then HB1.out x2); obtain ⟨AA, nn, cc, bm, vs, f, ecv, _⟩ := x1; subst ecv; clear x2)
    | ((with_reducible show wpList _ _ _ (⟨some 7, _, _, _, _, _⟩ :: _) _ _); refine wpList_alloc _ rfl 60 rfl vwZ vwZero ?_; intro w3 a1 a2 a3; have HW3 := Lib.hid a1; have HX3 := Lib.hid a2; clear a1 a2 a3)
    | ((with_reducible show wpList _ _ _ (⟨none, _, _, _, _, _⟩ :: _) _ _); refine wpList_storev _ rfl 60 (.tmp 7) (.tmp 9) rfl 2 (by kernel_rfl) w2.heap.size 0 _ vwZ [.slice AA nn cc, .map (some bm)] rfl rfl HW3.out rfl (one_val _ rfl) (by decide) ?_; intro w4 a1 a2 a3; have b4 := low_kp HX3.out a2 (fun i hi e => by omega); have HW4 : Hid (BL w4 w2.heap.size 60 [.slice AA nn cc, .map (some bm)]) := Lib.hid a1; have HI4 := Lib.hid (HI2.out.kept b4); have HV4 := Lib.hid (HV2.out.kept b4); have HB4 := Lib.hid (below_then HB2.out b4); clear a1 a2 a3 b4)
    | ((with_reducible show wpList _ _ _ (⟨some 10, _, _, _, _, _⟩ :: _) _ _); refine wpList_loadv _ rfl 60 (.tmp 7) rfl 2 (by kernel_rfl) w2.heap.size 0 _ rfl (BL.all HW4.out) rfl ?_)
    | (go_at_call 29; refine (stripes_cond _ (dd es) V w.heap.size w2.heap.size (condN (dd es) u) w4 HV4.out HL.out (fun w1 cs x h1 h2 => cond1_any _ _ u (dd es) _ cs x w1 HU.out (HI4.out.kept h1) (HW4.out.kept h1) (HV4.out.kept h1).m h2.1 ⟨(valid_dev h2.2).1, by have := (valid_dev h2.2).2.2; omega⟩)).mono ?_; rintro e w5 ⟨A5, c5, rfl, x1, x2, x3⟩; have HL5 := Lib.hid x1; have HO5 := Lib.hid x2; have HB5 := Lib.hid (below_then HB4.out x3); clear x1 x2 x3))
  go_ret
  exact ⟨A5, c5, rfl, HL5.out, fun a e => Nat.le_trans HB4.out.size (HO5.out a e), HB5.out⟩
theorem dropped_any (A : Option Addr) (n c : Nat) (es : List En) (V : Int) (B' : Option Addr) (m d : Nat) (ex : List Int) (w : World) (h : LS rEn 6 72 w A n c es) (hn : n ≤ 2000) (hex : LS rInt 1 8 w B' m d ex) :
    Calls Tryz.prog 12 #[.slice A n c, .int .i64 V, .slice B' m d] w (StrN (dropL (dd es) V ex) w) := by
  have HL : Hid ((ppL (dd es)).length ≤ 2000) := Lib.hid (by have := ppl_len es; have := h.1; omega)
  have H := Lib.hid h
  have HN := Lib.hid hn
  have HEX := Lib.hid hex
  clear h hn hex
  have hmf : ∀ (fn : Fn) (first cap : Array Value) (w : World), (Instr.makeFunc fn first cap).run Tryz.prog w = .ok (.func fn first cap) w := fun _ _ _ _ => rfl
  go_enter Tryz.func12, Tryz.ntmps12
  go_wp2_with (first
    | ((with_reducible show wpList _ _ _ (⟨some 5, _, _, _, _, _⟩ :: _) _ _); refine wpList_box1 _ rfl 31 (.tmp 2) rfl _ rfl rfl ?_; intro w1 y1 y2 y3; have HI1 := Lib.hid y1; have HB1 := Lib.hid y2; clear y1 y2 y3)
    | (go_at_call 25; refine (newView_any A n c es w1 (H.out.kept stay_en HB1.out) HN.out).mono ?_; rintro e w2 ⟨cv, rfl, x1, x2⟩; have HV2 := Lib.hid x1; have HI2 := Lib.hid (HI1.out.kept x2); have HB2 := Lib.hid (below_then HB1.out x2); obtain ⟨AA, nn, cc, bm, vs, f, ecv, _⟩ := x1; subst ecv; clear x2)
    | ((with_reducible show wpList _ _ _ (⟨some 7, _, _, _, _, _⟩ :: _) _ _); refine wpList_alloc _ rfl 60 rfl vwZ vwZero ?_; intro w3 a1 a2 a3; have HW3 := Lib.hid a1; have HX3 := Lib.hid a2; clear a1 a2 a3)
    | ((with_reducible show wpList _ _ _ (⟨none, _, _, _, _, _⟩ :: _) _ _); refine wpList_storev _ rfl 60 (.tmp 7) (.tmp 9) rfl 2 (by kernel_rfl) w2.heap.size 0 _ vwZ [.slice AA nn cc, .map (some bm)] rfl rfl HW3.out rfl (one_val _ rfl) (by decide) ?_; intro w4 a1 a2 a3; have b4 := low_kp HX3.out a2 (fun i hi e => by omega); have HW4 : Hid (BL w4 w2.heap.size 60 [.slice AA nn cc, .map (some bm)]) := Lib.hid a1; have HI4 := Lib.hid (HI2.out.kept b4); have HV4 := Lib.hid (HV2.out.kept b4); have HB4 := Lib.hid (below_then HB2.out b4); clear a1 a2 a3 b4)
    | ((with_reducible show wpList _ _ _ (⟨some 10, _, _, _, _, _⟩ :: _) _ _); refine wpList_loadv _ rfl 60 (.tmp 7) rfl 2 (by kernel_rfl) w2.heap.size 0 _ rfl (BL.all HW4.out) rfl ?_)
    | (go_at_call 29; refine (stripes_drop _ (dd es) V w2.heap.size w.heap.size (fun p => stateOf (dd es) p ex == 3) w4 HV4.out HL.out (fun w1 cs x h1 h2 => drop1_any _ _ B' m d ex (dd es) _ cs x w1 (HEX.out.kept stay_int (below_thenB HB4.out HB4.out.size h1)) (HW4.out.kept h1) (HI4.out.kept h1) (HV4.out.kept h1).m h2.1 ⟨(valid_dev h2.2).1, by have := (valid_dev h2.2).2.2; omega⟩)).mono ?_; rintro e w5 ⟨A5, c5, rfl, x1, x2, x3⟩; have HL5 := Lib.hid x1; have HO5 := Lib.hid x2; have HB5 := Lib.hid (below_then HB4.out x3); clear x1 x2 x3))
  go_ret
  exact ⟨A5, c5, rfl, HL5.out, fun a e => Nat.le_trans HB4.out.size (HO5.out a e), HB5.out⟩
end
end Go.Proofs.YtgoefpbicohkfaaGreatDoor
/- law47: id, same, to, from, long; the reference's Has (printed by bin/mk47e.py). -/
namespace Go.Proofs.YtgoefpbicohkfaaGreatDoor
open Go Go.RowKit Gf Sha

attribute [local go_sem] strB_app
def idC (c : UInt8) : List UInt8 := List.replicate 32 c
set_option maxRecDepth 100000 in
theorem id_any (c : UInt8) (w : World) : Calls Tryz.prog 7 #[B c] w fun e w' => e = .returned (.string (strB (idC c))) ∧ Below w.heap.size w w' := by
  go_enter Tryz.func7, Tryz.ntmps7
  rw [strB_nil]
  go_wp2_with fail
  go_loopw [3, 4] (fun v iv wr => ∃ k : Nat, k ≤ 32 ∧ iv = .int .i64 (k : Int) ∧ v = .string (strB (wdK c k)) ∧ Hid (Below w.heap.size w wr)) (fun _ iv _ => 32 - (intOf iv).toNat)
  case atStart => exact ⟨0, by omega, rfl, rfl, Lib.hid (Below.refl _ _)⟩
  case round =>
    obtain ⟨k, hk, rfl, rfl, hb⟩ := hrel
    obtain ⟨wx, hwx⟩ : ∃ x, x = wr := ⟨_, rfl⟩
    rw [← hwx] at hb ⊢
    clear hwx
    by_cases hlt : k < 32
    · have e1 := wdK_succ c k
      have e2 := cat_ok (wdK c k) [c] (by rw [wdK_len]; simp; omega)
      go_wp2_with (first
        | ((with_reducible show wpList _ _ _ (⟨some 11, _, _, _, _, _⟩ :: _) _ _); refine wpList_bslice _ rfl 24 5 1 _ rfl #[(0, B c)] (by rw [List.map_toArray]; rfl) ([c].map B) (bslU1 c _) ?_; intro w1 a1 a2 a3; have HX1 := Lib.hid a2; have cv := conv_str (BL.bs a1 (n := 1) rfl (by decide)); clear a1 a2 a3))
      go_roundw
      case rel => exact ⟨k + 1, by omega, by go_num, rfl, Lib.hid (below_thenB hb.out hb.out.size HX1.out)⟩
      case measure => simp [intOf]; omega
    · obtain rfl : k = 32 := by omega
      go_wp2_with fail
      go_ret
      exact ⟨rfl, hb.out⟩
set_option maxHeartbeats 400000 in
theorem has_any (A : Option Addr) (n c : Nat) (m : List (List UInt8)) (s : List UInt8) (w : World) (h : LS rStr 1 16 w A n c m) :
    Calls Tryz.prog 17 #[.slice A n c, .string (strB s)] w fun e w' => e = .returned (.bool (hasB m s)) ∧ w' = w := by
  have hn := h.len_le
  have H := Lib.hid h
  have HL := Lib.hid h.1
  clear h
  go_enter Tryz.func17, Tryz.ntmps17
  go_wp2_with fail
  go_loopw [9] (fun iv wr => wr = w ∧ ∃ k : Nat, k ≤ n ∧ iv = .int .i64 (k : Int) ∧ Hid (hasB (m.take k) s = false)) (fun iv _ => n - (intOf iv).toNat)
  case atStart => exact ⟨rfl, 0, by omega, rfl, Lib.hid rfl⟩
  case round =>
    obtain ⟨rfl, k, hk, rfl, hall⟩ := hrel
    by_cases hlt : k < n
    · obtain ⟨x, g, o, hx, rfl, q1⟩ := H.out.str_at (Below.refl _ _) hlt
      have HX := Lib.hid hx
      by_cases hs : x = s
      · have es : ((strB x).toList == (strB s).toList) = true := by rw [strB_eq]; exact decide_eq_true hs
        have HR : Hid (hasB m s = true) := Lib.hid ((hasB_iff m s).2 (hs ▸ mem_of HX.out))
        clear hs hx
        go_wp2_with fail
        go_ret
        exact ⟨ret_bool HR.out.symm, rfl⟩
      · have es : ((strB x).toList == (strB s).toList) = false := by rw [strB_eq]; exact decide_eq_false hs
        have HR : Hid (hasB (m.take (k + 1)) s = false) := Lib.hid (by rw [hasB_step HX.out, hall.out, beq_eq_false_iff_ne.2 hs]; rfl)
        clear hs hx
        go_wp2_with fail
        go_roundw
        case rel => exact ⟨trivial, k + 1, by omega, by go_num, HR⟩
        case measure => simp [intOf]; omega
    · obtain rfl : k = n := by omega
      go_wp2_with fail
      go_ret
      exact ⟨ret_bool (by have := hall.out; rw [take_end HL.out] at this; exact this.symm), rfl⟩
theorem bldTo (a b c : Int) (A1 : Option Addr) (n1 c1 : Nat) (A2 : Option Addr) (n2 c2 : Nat) (w : World) : (Instr.build 34 #[(0, .int .i64 a), (1, .int .i64 b), (2, .int .i64 c), (3, .slice A1 n1 c1), (4, .slice A2 n2 c2)]).run Tryz.prog w = .ok (.agg [.int .i64 a, .int .i64 b, .int .i64 c, .slice A1 n1 c1, .slice A2 n2 c2].toArray) w := by kernel_rfl
theorem ppZero' : (Tryz.prog.info? 34).map (·.zero) = some (some (.agg ppZ.toArray)) := by kernel_rfl
/-- Is a view larger than the statements consider? -/
def longB (es : List En) : Bool := es.any (fun x => decide (1000 < x.body.length)) || decide (30 < es.length)
end Go.Proofs.YtgoefpbicohkfaaGreatDoor
