/- Several texts in one: Mt7, Mt8. -/
import Derived.Test.YtgjgofjabdjclaaDoorA28
/- challenge.Prove and the reference's: the proofs of the spots. -/
namespace Go.Proofs.YtgjgofjabdjclaaDoor
open Go Go.RowKit Gf Sha

/-- v holds the list L; whatever turns in v's own block, the parts read on. -/
def OLn {α : Type} (R : Rdg α) (s : Nat) (te : TypeId) (base : Nat) (w : World) (v : Value) (L : List α) : Prop :=
  ∃ css : List (List Value), css.length = L.length ∧ (∀ cs ∈ css, cs.length = s) ∧ (∀ w', Kp (fun b => v.ownBlock = some b) w w' → ∀ k (h : k < L.length) (h' : k < css.length), R w' css[k] L[k]) ∧ RW w te s v L.length css.flatten ∧ ∀ b, v.ownBlock = some b → base ≤ b
section
variable {α : Type} {R : Rdg α} {s base : Nat} {te : TypeId} {w w' : World} {v v' : Value} {L : List α}
theorem OLn.nil' {g : Nat} (R : Rdg α) (s : Nat) (h : BL w g te []) (hg : base ≤ g) : OLn R s te base w (.slice (some ⟨g, 0, none⟩) 0 0) [] :=
  ⟨[], rfl, (fun _ h => by cases h), (fun _ _ k h => absurd h (by simp)), RW.of_blk h (by simp) (by decide), (fun b hb => by cases hb; exact hg)⟩
theorem Kp.before {S : Nat → Prop} {w w1 w2 : World} (h : Below w.heap.size w w1) (k : Kp S w1 w2) : Kp S w w2 := (Kp.of_below h).trans k
theorem OLn.kept (h : OLn R s te base w v L) (hb : Below w.heap.size w w') : OLn R s te base w' v L :=
  let ⟨css, h1, h2, h3, h4, h5⟩ := h; ⟨css, h1, h2, fun w'' hk => h3 w'' (Kp.before hb hk), h4.kept hb, h5⟩
theorem OLn.push {n : Nat} {css : List (List Value)} (hl : css.length = L.length) (h2 : ∀ cs ∈ css, cs.length = s) (h3 : ∀ w', Kp (fun b => v.ownBlock = some b) w w' → ∀ k (h : k < L.length) (h' : k < css.length), R w' css[k] L[k]) (h5 : ∀ b, v.ownBlock = some b → base ≤ b) (hn : L.length = n)
    {x : α} {xs : List Value} (hxs : xs.length = s) (hx : ∀ w', Kp (fun b => v.ownBlock = some b) w w' → R w' xs x) (hw : base ≤ w.heap.size) (ap : AppR w te s v n 1 css.flatten xs v' w') : OLn R s te base w' v' (L ++ [x]) := by
  have hk : ∀ w'', Kp (fun b => v'.ownBlock = some b) w' w'' → Kp (fun b => v.ownBlock = some b) w w'' := fun w'' h => ap.kp.after h (fun i hi e => (ap.own i e).elim id (fun h => absurd h (by omega)))
  refine ⟨css ++ [xs], by simp [hl], fun cs hcs => ?_, fun w'' hk'' k hk1 hk2 => ?_, ?_, fun b hb => (ap.own b hb).elim (h5 b) (fun h => Nat.le_trans hw h)⟩
  · rcases List.mem_append.1 hcs with h | h
    · exact h2 cs h
    · rw [List.mem_singleton.1 h]; exact hxs
  · by_cases hlt : k < L.length
    · rw [List.getElem_append_left (by omega), List.getElem_append_left hlt]; exact h3 w'' (hk w'' hk'') k hlt (by omega)
    · have e : k = L.length := by simp at hk1; omega
      subst e
      rw [List.getElem_append_right (by omega), List.getElem_append_right (by omega)]
      simp only [hl, Nat.sub_self, List.getElem_cons_zero]
      exact hx w'' (hk w'' hk'')
  · have := ap.row
    rw [List.flatten_append, List.flatten_cons, List.flatten_nil, List.append_nil, List.length_append, hn]
    exact this
theorem OLn.ls {b : Nat} (h : OLn R s te base w v L) (hl : L.length * b ≤ lim) : ∃ A c, v = .slice A L.length c ∧ LS R s b w A L.length c L := by
  obtain ⟨css, h1, h2, h3, h4, h5⟩ := h
  obtain ⟨A, c, rfl, hc⟩ := h4.form
  refine ⟨A, c, rfl, rfl, hc, hl, fun k hk => ?_⟩
  obtain ⟨g, o, c', e, _, hat⟩ := h4.at_ (by omega)
  cases e
  have hk' : k < css.length := by omega
  exact ⟨g, o, css[k], rfl, at_flatten h2 hat hk', h3 w (Kp.refl _ _) k hk hk'⟩
end

/-- The proof of block b. -/
def pfN (x : List UInt8) (size q b : Nat) : Pf := ⟨(b : Int), blk x size b, (pth (lvsK x size q) b).reverse⟩
def prfL (x : List UInt8) (size q : Nat) (S : List Int) : List Pf := S.map fun z => pfN x size q z.toNat
theorem prfL_length (x : List UInt8) (size q : Nat) (S : List Int) : (prfL x size q S).length = S.length := by simp [prfL]
/-- A proof of new parts reads on, while other blocks turn. -/
theorem pf_stable {w : World} {S : Nat → Prop} {A A' : Option Addr} {n c n' c' base base' : Nat} {z : Int} {x : List UInt8} {m : List (List UInt8)} (h : OwnB w base (.slice A n c) n x) (h' : OwnS w base' (.slice A' n' c') n' m) (hn : n ≤ lim) (hn' : n' * 16 ≤ lim)
    (hS : ∀ b, S b → b < base) (hS' : ∀ b, S b → b < base') : ∀ w', Kp S w w' → rPf w' [.int .i64 z, .slice A n c, .slice A' n' c'] ⟨z, x, m⟩ := fun w' hk =>
  ⟨A, n, c, A', n', c', rfl, BS.of_rw (h.1.kp hk (fun b hb e => by have := h.2 b hb; have := hS b e; omega)) hn, TS.of_rw (h'.1.kp hk (fun b hb e => by have := h'.2 b hb; have := hS' b e; omega)) hn'⟩

theorem spots_get {nl : List UInt8} {q c k : Nat} (hcq : c ≤ q) (hk : k < c) : ∃ z : Nat, gI (spotsL nl q c) k = (z : Int) ∧ z < q := by
  have hk' : k < (spotsL nl q c).length := by rw [spotsL_length]; exact hk
  have h := spotsL_mem hcq (List.getElem_mem hk')
  rw [← gI_eq hk'] at h
  exact ⟨(gI (spotsL nl q c) k).toNat, by omega, by omega⟩
theorem take_snoc {S : List Int} {k : Nat} (hk : k < S.length) : S.take (k + 1) = S.take k ++ [gI S k] := by rw [gI_eq hk, List.take_succ_eq_append_getElem hk]

set_option maxRecDepth 100000 in
set_option maxHeartbeats 4000000 in
theorem rprove_any (A : Option Addr) (n cp size c : Nat) (x nl : List UInt8) (w : World) (h : BS w A n cp x) (hT : Tabs w) (h1 : 1 ≤ n) (hn : n ≤ 1000) (hD : dataB n = true) (hs : 1 ≤ size) (hs2 : size < 9223372036854775808) (hq : nb n size ≤ 250) (hv : spotB nl.length (nb n size : Int) (c : Int) = true) :
    Calls Tryd.prog 38 #[.slice A n cp, .int .i64 (size : Int), .string (strB nl), .int .i64 (c : Int)] w fun e w' => ∃ A' c', e = .returned (.tuple #[.slice A' c c', .int .i64 0]) ∧ LS rPf 3 56 w' A' c c' (prfL x size (nb n size) (spotsL nl (nb n size) c)) ∧ Below w.heap.size w w' := by
  have H := Lib.hid h
  have HT := Lib.hid hT
  have HR : Hid ((n : Int) - 1 = ((n - 1 : Nat) : Int)) := Lib.hid (by omega)
  have HN := Lib.hid (And.intro h1 hn)
  obtain ⟨q0, hqd0⟩ : ∃ q, q = (n - 1) / size := ⟨_, rfl⟩
  have HQ0 := Lib.hid hqd0.symm
  obtain ⟨q, hqd⟩ : ∃ q, q = nb n size := ⟨_, rfl⟩
  rw [← hqd] at hq hv ⊢
  have HQ := Lib.hid hqd.symm
  have eq1 : (q0 : Int) + 1 = (q : Int) := by rw [hqd, nb, ← hqd0]; omega
  obtain ⟨v1, v2, v3, v4, v5, v6⟩ := spotB_parts hv
  have hcq : c ≤ q := by omega
  have hc64 : c ≤ 64 := by omega
  have hc0 : 0 ≤ (c : Int) := by omega
  have HV := Lib.hid hv
  have HSL : Hid ((spotsL nl q c).length = c) := Lib.hid (spotsL_length nl q c)
  have HGET : Hid (∀ k, k < c → ∃ z : Nat, gI (spotsL nl q c) k = (z : Int) ∧ z < q) := Lib.hid (fun k hk => spots_get hcq hk)
  have HDD := Lib.hid hD
  clear h hT hqd0 hqd hv v1 v2 v3 v4 v5 v6 hD
  go_enter Tryd.func38, Tryd.ntmps38
  go_wp2_with (first
    | (go_at_call 59; refine (rdata_any _ n cp w).mono ?_; rintro e w1 ⟨rfl, hw⟩; rw [← hw]; clear hw w1; rw [HDD.out])
    | ((with_reducible show wpList _ _ _ (⟨some 31, _, _, _, _, _⟩ :: _) _ _); refine wpList_quoN _ rfl (.tmp 29) (.tmp 30) _ _ rfl (n - 1) size _ _ rfl rfl HR.out rfl (by omega) (by have := HN.out.2; omega) ?_; rw [HQ0.out])
    | (go_at_call 22; refine (rspots_yes nl q c _ HV.out).mono ?_; rintro e w2 ⟨v, rfl, ⟨A', n', c', rfl⟩, o1, b2⟩; obtain ⟨A', c', e', _⟩ := (RW.of_own o1.2).1.form; obtain rfl := (Value.slice.inj e').2.1.symm; clear e'; have HB2 := Lib.hid b2; have HO2 := Lib.hid (RW.of_own o1.2).1; clear o1 b2)
    | ((with_reducible show wpList _ _ _ (⟨some 40, _, _, _, _, _⟩ :: _) _ _); refine wpList_bslice _ rfl 66 72 0 _ rfl #[] (by rw [List.map_toArray]; rfl) [] (bsl0P _) ?_; intro w3 a1 a2 a3; have HG3 := Lib.hid a1; have HX3 := Lib.hid a2; have HB3 := Lib.hid (below_then HB2.out a2); clear a1 a2 a3))
  go_loopw [12, 43] (fun v iv wr => ∃ k : Nat, k ≤ c ∧ iv = .int .i64 (k : Int) ∧ Hid (OLn rPf 3 72 w2.heap.size wr v (prfL x size q ((spotsL nl q c).take k))) ∧ Hid (Below w2.heap.size w2 wr)) (fun _ iv _ => c - (intOf iv).toNat)
  case atStart => exact ⟨0, by omega, rfl, Lib.hid (OLn.nil' _ _ HG3.out (Nat.le_refl _)), HX3⟩
  case round =>
    obtain ⟨k, hk, rfl, ho, hx⟩ := hrel
    obtain ⟨wx, hwx⟩ : ∃ x, x = wr := ⟨_, rfl⟩
    rw [← hwx] at ho hx ⊢
    clear hwx
    have HBx := Lib.hid (below_thenB HB2.out HB2.out.size hx.out)
    by_cases hlt : k < c
    · obtain ⟨z, hz, hzq⟩ := HGET.out k hlt
      obtain ⟨gs, os, cs', es, _, hats⟩ := (HO2.out.kept hx.out).at_ (by omega)
      cases es
      have q5 := at_get hats (k := k) (by rw [HSL.out]; exact hlt)
      rw [hz] at q5
      have HTS : Hid (prfL x size q ((spotsL nl q c).take (k + 1)) = prfL x size q ((spotsL nl q c).take k) ++ [pfN x size q z]) := Lib.hid (by
        rw [take_snoc (by rw [HSL.out]; exact hlt), prfL, List.map_append, hz]; rfl)
      have HTL : Hid ((prfL x size q ((spotsL nl q c).take k)).length = k) := Lib.hid (by rw [prfL_length, List.length_take, HSL.out]; omega)
      obtain ⟨css, hc1, hc2, hc3, hc4, hc5⟩ := ho.out
      rw [HTL.out] at hc1 hc4
      have HC1 := Lib.hid hc1
      have HC2 := Lib.hid hc2
      have HC3 := Lib.hid hc3
      have HC4 := Lib.hid hc4
      have HC5 := Lib.hid hc5
      clear hats hz hc1 hc2 hc3 hc4 hc5
      go_wp2_with (first
        | (go_at_call 69; refine (rshow_any A n cp size z x wx (H.out.kept HBx.out) (HT.out.kept HBx.out) HN.out.1 (by omega) hs hs2 (by rw [HQ.out]; exact hzq) (by rw [HQ.out]; exact hq)).mono ?_; rintro e w4 ⟨u1, u2, m, rfl, o1, om, o2, ol, b1⟩; rw [HQ.out] at o2 ol; obtain ⟨A1, c1, rfl, _⟩ := o1.1.form; obtain ⟨A2, c2, rfl, _⟩ := o2.1.form; have HO1 := Lib.hid o1; have HOM := Lib.hid om; have HOP := Lib.hid o2; have HOL := Lib.hid ol; have HX4 := Lib.hid b1; clear o1 om o2 ol b1)
        | ((with_reducible show wpList _ _ _ (⟨some 60, _, _, _, _, _⟩ :: _) _ _); refine wpList_bslice _ rfl 66 72 1 _ rfl #[(0, .agg #[.int .i64 (z : Int), .slice A1 m c1, .slice A2 (pth (lvsK x size q) z).length c2])] (by rw [List.map_toArray]; rfl) [.int .i64 (z : Int), .slice A1 m c1, .slice A2 (pth (lvsK x size q) z).length c2] (bslPf _ _ _ _ _ _ _ _) ?_; intro w5 a1 a2 a3; have HG5 := Lib.hid a1; have HXX5 := Lib.hid a2; have HX5 := Lib.hid (below_then HX4.out a2); clear a1 a2 a3)
        | ((with_reducible show wpList _ _ _ (⟨some 61, _, _, _, _, _⟩ :: _) _ _); obtain ⟨iS, i1, i2, i3, i4⟩ := info_some infoPf; refine wpList_appRW _ rfl (.tmp 55) (.tmp 60) 66 72 3 iS _ rfl Tryd.underlying66 i1 i2 i3 rfl _ k _ rfl (HC4.out.kept HX5.out) w4.heap.size _ rfl HG5.out rfl (pf_one _ _ _ _ _ _ _) (by rw [i4]; omega) (by omega) ?_; intro v' w6 a1; have HR6 := Lib.hid a1; clear a1 i1 i2 i3 i4))
      have HX5' : Hid (Below w2.heap.size w2 w5) := Lib.hid (below_thenB hx.out hx.out.size HX5.out)
      have HX6 : Hid (Below w2.heap.size w2 w6) := Lib.hid (((Kp.of_below (S := fun _ => False) HX5'.out).after HR6.out.kp (fun i hi e => by have := HC5.out i e; omega)).below (Nat.le_refl _) (fun _ h => h.elim))
      have HO6 : Hid (OLn rPf 3 72 w2.heap.size w6 v' (prfL x size q ((spotsL nl q c).take (k + 1)))) := Lib.hid (by
        rw [HTS.out]
        refine OLn.push (by rw [HC1.out, HTL.out]) HC2.out (fun w' hk => HC3.out w' (Kp.before HX5.out hk)) HC5.out HTL.out rfl ?_ (Nat.le_trans hx.out.size HX5.out.size) HR6.out
        have hlt2 : ∀ b, Value.ownBlock _ = some b → b < wx.heap.size := fun b hb => HC4.out.lt hb
        exact pf_stable (HO1.out.kept HXX5.out) (HOP.out.kept' HXX5.out) (by have := HOM.out; unfold lim; omega) (by have := HOL.out; unfold lim; omega) hlt2 hlt2)
      go_roundw
      case rel => exact ⟨k + 1, by omega, by go_num, HO6, HX6⟩
      case measure => simp [intOf]; omega
    · obtain rfl : k = c := by omega
      go_wp2_with fail
      go_ret2
      have h9 := ho.out
      rw [List.take_of_length_le (by rw [HSL.out]; exact Nat.le_refl _)] at h9
      have hl9 : (prfL x size q (spotsL nl q k)).length = k := by rw [prfL_length, HSL.out]
      obtain ⟨A9, c9, e9, l9⟩ := h9.ls (b := 56) (by rw [hl9]; unfold lim; omega)
      rw [hl9] at e9 l9
      exact ⟨A9, c9, by rw [e9]; rfl, l9, HBx.out⟩
end Go.Proofs.YtgjgofjabdjclaaDoor
/- challenge.Prove. -/
namespace Go.Proofs.YtgjgofjabdjclaaDoor
open Go Go.RowKit Gf Sha

/-- Block g holds the first of n elements, zeros behind them; whatever turns in it, the parts read on. -/
def BLn {α : Type} (R : Rdg α) (s : Nat) (te : TypeId) (z : List Value) (n : Nat) (w : World) (g : Nat) (L : List α) : Prop :=
  ∃ css : List (List Value), css.length = L.length ∧ (∀ cs ∈ css, cs.length = s) ∧ (∀ w', Kp (· = g) w w' → ∀ k (h : k < L.length) (h' : k < css.length), R w' css[k] L[k]) ∧ L.length ≤ n ∧ BL w g te (css.flatten ++ (List.replicate (n - L.length) ()).flatMap fun _ => z)
section
variable {α : Type} {R : Rdg α} {s n g : Nat} {te : TypeId} {z : List Value} {w w' : World} {L : List α}
theorem BLn.nil (R : Rdg α) (s : Nat) (h : BL w g te ((List.replicate n ()).flatMap fun _ => z)) : BLn R s te z n w g [] :=
  ⟨[], rfl, (fun _ h => by cases h), (fun _ _ k h => absurd h (by simp)), Nat.zero_le _, by simpa using h⟩
theorem BLn.kept (h : BLn R s te z n w g L) (hb : Below w.heap.size w w') : BLn R s te z n w' g L :=
  let ⟨css, h1, h2, h3, h4, h5⟩ := h; ⟨css, h1, h2, fun w'' hk => h3 w'' (Kp.before hb hk), h4, h5.kept hb⟩
theorem BLn.blk (h : BLn R s te z n w g L) (hz : z.length = s) : ∃ l, BL w g te l ∧ l.length = n * s := by
  obtain ⟨css, h1, h2, h3, h4, h5⟩ := h
  refine ⟨_, h5, ?_⟩
  rw [List.length_append, flatten_len h2, flat_length (s := s) (fun _ => hz), List.length_replicate, h1, ← Nat.add_mul]
  congr 1; omega
/-- One more laid. -/
theorem BLn.put {x : α} {xs : List Value} (h : BLn R s te z n w g L) (hz : z.length = s) (hlt : L.length < n) (hxs : xs.length = s) (hx : ∀ w', Kp (· = g) w w' → R w' xs x) {l : List Value} (hl : BL w g te l)
    (hw : BL w' g te (splice l (L.length * s) xs)) (hk : Kp (· = g) w w') : BLn R s te z n w' g (L ++ [x]) := by
  obtain ⟨css, h1, h2, h3, h4, h5⟩ := h
  have e : l = css.flatten ++ (List.replicate (n - L.length) ()).flatMap fun _ => z := by
    have := hl.symm.trans h5
    injection this with this
    injection this with this
    have := congrArg Array.toList this
    simpa using this
  subst e
  obtain ⟨j, hj⟩ : ∃ j, n - L.length = j + 1 := ⟨n - L.length - 1, by omega⟩
  refine ⟨css ++ [xs], by simp [h1], fun cs hcs => ?_, fun w'' hk'' k hk1 hk2 => ?_, by simp; omega, ?_⟩
  · rcases List.mem_append.1 hcs with h | h
    · exact h2 cs h
    · rw [List.mem_singleton.1 h]; exact hxs
  · by_cases hlt' : k < L.length
    · rw [List.getElem_append_left (by omega), List.getElem_append_left hlt']; exact h3 w'' (hk.trans hk'') k hlt' (by omega)
    · have e : k = L.length := by simp at hk1; omega
      subst e
      rw [List.getElem_append_right (by omega), List.getElem_append_right (by omega)]
      simp only [h1, Nat.sub_self, List.getElem_cons_zero]
      exact hx w'' (hk.trans hk'')
  · rw [hj, List.replicate_succ, List.flatMap_cons, ← List.append_assoc, splice_mid _ _ _ _ _ (by rw [flatten_len h2, h1]) (by rw [hxs, hz])] at hw
    rw [List.flatten_append, List.flatten_cons, List.flatten_nil, List.append_nil, List.length_append, List.length_singleton, show n - (L.length + 1) = j by omega]
    exact hw
theorem BLn.ls {b : Nat} (h : BLn R s te z n w g L) (hl : L.length = n) (hb : n * b ≤ lim) : LS R s b w (some ⟨g, 0, none⟩) n n L := by
  obtain ⟨css, h1, h2, h3, h4, h5⟩ := h
  rw [hl, Nat.sub_self, List.replicate_zero, List.flatMap_nil, List.append_nil] at h5
  refine ⟨hl, Nat.le_refl _, hb, fun k hk => ?_⟩
  have hk' : k < css.length := by omega
  refine ⟨g, 0, css[k], rfl, at_flatten h2 h5.all hk', h3 w (Kp.refl _ _) k hk hk'⟩
end

theorem infoPfP : (Tryd.prog.info? 63).map (fun i => (i.zero, i.size, i.bytes)) = some (some (.agg pfZ.toArray), pfZ.length, 56) := by kernel_rfl

set_option maxRecDepth 100000 in
set_option maxHeartbeats 8000000 in
theorem prove_any (A : Option Addr) (n cp size c : Nat) (x nl : List UInt8) (w : World) (h : BS w A n cp x) (hT : Tabs w) (h1 : 1 ≤ n) (hn : n ≤ 1000) (hD : dataB n = true) (hs : 1 ≤ size) (hs2 : size < 9223372036854775808) (hq : nb n size ≤ 250) (hv : spotB nl.length (nb n size : Int) (c : Int) = true) :
    Calls Tryd.prog 37 #[.slice A n cp, .int .i64 (size : Int), .string (strB nl), .int .i64 (c : Int)] w fun e w' => ∃ A' c', e = .returned (.tuple #[.slice A' c c', .int .i64 0]) ∧ LS rPf 3 56 w' A' c c' (prfL x size (nb n size) (spotsL nl (nb n size) c)) ∧ Below w.heap.size w w' := by
  obtain ⟨gx, ox, rfl⟩ := h.form h1
  have H := Lib.hid h
  have HT := Lib.hid hT
  have HN := Lib.hid (And.intro h1 hn)
  have hcn : n ≤ cp := h.2.1
  have HNB : Hid (∀ k, k < nb n size ↔ k * size < n) := Lib.hid (fun k => nb_lt h1 hs)
  have HQ1 : Hid ((n - 1) / size + 1 = nb n size) := Lib.hid rfl
  obtain ⟨q, hqd⟩ : ∃ q, q = nb n size := ⟨_, rfl⟩
  rw [← hqd] at hq hv HNB HQ1 ⊢
  have HQ := Lib.hid hqd.symm
  obtain ⟨v1, v2, v3, v4, v5, v6⟩ := spotB_parts hv
  have hcq : c ≤ q := by omega
  have hc64 : c ≤ 64 := by omega
  have hc0 : 0 ≤ (c : Int) := by omega
  have HV := Lib.hid hv
  have HSL : Hid ((spotsL nl q c).length = c) := Lib.hid (spotsL_length nl q c)
  have HGET : Hid (∀ k, k < c → ∃ z : Nat, gI (spotsL nl q c) k = (z : Int) ∧ z < q) := Lib.hid (fun k hk => spots_get hcq hk)
  have HDD := Lib.hid hD
  have HQL : Hid (q * 16 ≤ lim) := Lib.hid (by unfold lim; omega)
  clear h hT hqd hv v1 v2 v3 v4 v5 v6 hD
  go_enter Tryd.func37, Tryd.ntmps37
  go_wp2_with (first
    | (go_at_call 43; refine (isData_any _ n cp w).mono ?_; rintro e w1 ⟨rfl, hw⟩; rw [← hw]; clear hw w1; rw [HDD.out])
    | (go_at_call 61; refine (blocksOf_any n size _ h1 (by omega) hs hs2).mono ?_; rintro e w1 ⟨rfl, hw⟩; rw [hw]; clear hw w1; rw [HQ1.out])
    | (go_at_call 21; refine (spots_yes nl q c _ HT.out HV.out).mono ?_; rintro e w2 ⟨v, rfl, ⟨A', n', c', rfl⟩, o1, b2⟩; obtain ⟨A', c', e', _⟩ := (RW.of_own o1.2).1.form; obtain rfl := (Value.slice.inj e').2.1.symm; clear e'; have HB2 := Lib.hid b2; have HO2 := Lib.hid (RW.of_own o1.2).1; clear o1 b2)
    | (go_at_call 64; refine (blocks_any _ n cp size x w2 (H.out.kept HB2.out) (HT.out.kept HB2.out) HN.out.1 (by omega) hs hs2).mono ?_; rintro e w3 ⟨v3, rfl, o3, b3⟩; rw [HQ.out] at o3; obtain ⟨A3, c3, rfl, _⟩ := o3.1.form; have HO3 := Lib.hid o3; have HB3 := Lib.hid (below_then HB2.out b3); have HX3 := Lib.hid b3; clear o3 b3)
    | (go_at_call 65; refine (mnew_any w3).mono ?_; rintro e w4 ⟨rfl, ⟨v4, vs4, t4⟩, b4⟩; have HT4 := Lib.hid t4; have HX4 := Lib.hid b4; clear t4 b4))
  have hq0 : 0 ≤ (q : Int) := by omega
  go_loopw [56] (fun iv wr => ∃ (k : Nat) (v : Value) (vs : List Value), k ≤ q ∧ iv = .int .i64 (k : Int) ∧ Hid (TreeM wr (w3.heap.size + 1) w3.heap.size (lvA (lvsK x size k)) v vs) ∧ Hid (Below w3.heap.size w3 wr)) (fun iv _ => q - (intOf iv).toNat)
  case atStart => exact ⟨0, v4, vs4, by omega, rfl, HT4, HX4⟩
  case round =>
    obtain ⟨k, v, vs, hk, rfl, ht, hx⟩ := hrel
    obtain ⟨wx, hwx⟩ : ∃ x, x = wr := ⟨_, rfl⟩
    rw [← hwx] at ht hx ⊢
    clear hwx
    have HBx := Lib.hid (below_thenB HB3.out HB3.out.size hx.out)
    by_cases hlt : k < q
    · obtain ⟨g3, o3, c3', e3, _, hat⟩ := (HO3.out.1.kept hx.out).at_ (by omega)
      cases e3
      have hkl : k < (lvsK x size q).length := by rw [lvsK_length]; exact hlt
      have c5a := hat k _ (by rw [List.getElem?_map, List.getElem?_eq_getElem hkl]; rfl)
      obtain ⟨lf, hlf⟩ : ∃ lf, lf = mleaf (blk x size k) := ⟨_, rfl⟩
      have elf : (lvsK x size q)[k] = lf := by rw [← gR_eq hkl, lvsK_get hlt, hlf]
      have c5 : wx.cell? ⟨g3, o3 + k, none⟩ = some (.string (strB lf)) := by rw [elf] at c5a; exact c5a
      have HLS := Lib.hid (lvsK_succ x size k)
      rw [← hlf] at HLS
      have HL32 : Hid (lf.length = 32) := Lib.hid (by rw [hlf]; exact mleaf_length _)
      have HBASE : Hid (2 < w3.heap.size) := Lib.hid ((HT.out.kept HB3.out).size)
      clear hat c5a hkl elf hlf
      go_wp2_with (go_at_call 66; refine (tadd_any wx (w3.heap.size + 1) w3.heap.size (lvsK x size k) lf v vs ht.out (by rw [lvsK_length]; omega) HL32.out (lvsK_lv _ _ _) (HT.out.kept HBx.out) HBASE.out hx.out.size).mono ?_; rintro e w5 ⟨rfl, ⟨v5, vs5, t5⟩, b5⟩; rw [← HLS.out] at t5; have HT5 := Lib.hid t5; have HX5 := Lib.hid (hx.out.trans b5); clear t5 b5)
      go_roundw
      case rel => exact ⟨k + 1, v5, vs5, by omega, by go_num, HT5, HX5⟩
      case measure => simp [intOf]; omega
    · obtain rfl : q = k := by omega
      go_wp2_with ((with_reducible show wpList _ _ _ (⟨some 72, _, _, _, _, _⟩ :: _) _ _); refine wpList_mkv _ rfl 60 63 _ _ rfl pfZ (by decide) 56 Tryd.underlying60 infoPfP c c _ _ rfl rfl rfl rfl (Nat.le_refl _) (by omega) (by omega) ?_; intro w6 a1 a2 a3; have HL6 := Lib.hid a1; have HX6 := Lib.hid a2; clear a1 a2 a3)
      have HTP : Hid (∀ (z : Nat) (w' : World), z < q → Below wx.heap.size wx w' → Calls Tryd.prog 67 #[.pointer (some ⟨w3.heap.size + 1, 0, none⟩), .int .i64 (z : Int), .int .i64 (q : Int)] w' fun e w'' => ∃ v', e = .returned (.tuple #[v', .int .i64 0]) ∧ OwnS w'' w'.heap.size v' (pth (lvsK x size q) z).length (pth (lvsK x size q) z).reverse ∧ Below w'.heap.size w' w'') := Lib.hid (fun z w' hz hb => by
        have h9 := tpath_any (w3.heap.size + 1) w3.heap.size (lvsK x size q) v vs z w' (by rw [lvsK_length]; omega) (lvsK_lv _ _ _) (by rw [lvsK_length]; exact hz) (ht.out.kept hb) ((HT.out.kept HBx.out).kept hb)
        rw [lvsK_length] at h9
        exact h9)
      have HPL : Hid (∀ z, z < q → (pth (lvsK x size q) z).length ≤ 250) := Lib.hid (fun z hz => by
        have h9 := pth_length (L := lvsK x size q) (by rw [lvsK_length]; omega) (by rw [lvsK_length]; omega) z (by rw [lvsK_length]; exact hz)
        rw [lvsK_length] at h9
        omega)
      have HO2x := Lib.hid ((HO2.out.kept HX3.out).kept hx.out)
      have HBLK0 : Hid (BLn rPf 3 63 pfZ c w6 wx.heap.size (prfL x size q ((spotsL nl q c).take 0))) := Lib.hid (BLn.nil _ _ HL6.out)
      have hsz := HX3.out.size
      go_loopw [75] (fun iv wr => ∃ j : Nat, j ≤ c ∧ iv = .int .i64 (j : Int) ∧ Hid (BLn rPf 3 63 pfZ c wr wx.heap.size (prfL x size q ((spotsL nl q c).take j))) ∧ Hid (Below wx.heap.size wx wr)) (fun iv _ => c - (intOf iv).toNat)
      case atStart => exact ⟨0, by omega, rfl, HBLK0, HX6⟩
      case round =>
        obtain ⟨j, hj, rfl, hl, hy⟩ := hrel
        obtain ⟨wy, hwy⟩ : ∃ y, y = wr := ⟨_, rfl⟩
        rw [← hwy] at hl hy ⊢
        clear hwy
        by_cases hjc : j < c
        · obtain ⟨z, hz, hzq⟩ := HGET.out j hjc
          obtain ⟨gs, os, cs', es, _, hats⟩ := (HO2x.out.kept hy.out).at_ (by omega)
          cases es
          have q5 := at_get hats (k := j) (by rw [HSL.out]; exact hjc)
          rw [hz] at q5
          have HTS : Hid (prfL x size q ((spotsL nl q c).take (j + 1)) = prfL x size q ((spotsL nl q c).take j) ++ [pfN x size q z]) := Lib.hid (by
            rw [take_snoc (by rw [HSL.out]; exact hjc), prfL, List.map_append, hz]; rfl)
          have HTL : Hid ((prfL x size q ((spotsL nl q c).take j)).length = j) := Lib.hid (by rw [prfL_length, List.length_take, HSL.out]; omega)
          have hbsn := (HNB.out z).1 hzq
          obtain ⟨bs, hbd⟩ : ∃ bs, bs = z * size := ⟨_, rfl⟩
          have em : (z : Int) * (size : Int) = (bs : Int) := by rw [hbd, Int.natCast_mul]
          rw [← hbd] at hbsn
          obtain ⟨m0, hm0⟩ : ∃ m0, m0 = n - bs := ⟨_, rfl⟩
          obtain ⟨c0, hc00⟩ : ∃ c0, c0 = cp - bs := ⟨_, rfl⟩
          obtain ⟨mm, hmm⟩ : ∃ mm, mm = min size m0 := ⟨_, rfl⟩
          have hbn : bs ≤ n := by omega
          have HM0 := Lib.hid hm0.symm
          have HC0 := Lib.hid hc00.symm
          have emin : min (size : Int) (m0 : Int) = (mm : Int) := by omega
          have hmc : (mm : Int) ≤ (c0 : Int) := by omega
          have hmc2 : mm ≤ c0 := by omega
          have HMM : Hid (1 ≤ mm ∧ mm ≤ 1000) := Lib.hid (by omega)
          have HBlk : Hid (∀ w', Below w.heap.size w w' → BS w' (cutA (some ⟨gx, ox, none⟩) cp bs) mm c0 (blk x size z)) := Lib.hid (fun w' hb => by
            have h9 := ((H.out.kept hb).cut hbn)
            rw [HM0.out, HC0.out] at h9
            have h10 := h9.pre (k := mm) (by omega)
            rw [blk, ← hbd, ← take_min_drop (a := bs) (m := m0) (mm := mm) h9.1 (by omega)]
            exact h10)
          have HBy := Lib.hid (below_thenB HBx.out HBx.out.size hy.out)
          clear hats hz hbd hm0 hc00 hmm
          go_wp2_with (first
            | (go_at_call 67; refine (HTP.out z wy hzq hy.out).mono ?_; rintro e w7 ⟨v7, rfl, o7, b7⟩; obtain ⟨A7, c7, rfl, _⟩ := o7.1.form; have HO7 := Lib.hid o7; have HX7 := Lib.hid b7; have HB7 := Lib.hid (below_thenB HBy.out HBy.out.size b7); clear o7 b7)
            | ((with_reducible show wpList _ _ _ (⟨some 95, _, _, _, _, _⟩ :: _) _ _); refine wpList_cut _ rfl (.tmp 91) _ 22 5 rfl Tryd.underlying22 (by kernel_rfl) (some ⟨gx, ox, none⟩) n cp bs _ rfl rfl rfl hbn ?_; rw [HM0.out, HC0.out])
            | (go_at_call 68; refine (cloneB_any _ mm c0 (blk x size z) w7 (HBlk.out _ HB7.out) HMM.out.1 (by have := HMM.out.2; omega)).mono ?_; rintro e w8 ⟨v8, rfl, o8, b8⟩; obtain ⟨A8, c8, rfl, _⟩ := o8.1.form; have HO8 := Lib.hid o8; have HX8 := Lib.hid b8; have HXX8 := Lib.hid (below_then HX7.out b8); obtain ⟨lb, hlb, hlbl⟩ := (hl.out.kept HXX8.out).blk (show pfZ.length = 3 from rfl); have HLB := Lib.hid hlb; have HLBL := Lib.hid hlbl; clear o8 b8 hlb hlbl)
            | ((with_reducible show wpList _ _ _ (⟨none, _, _, _, _, _⟩ :: _) _ _); refine wpList_storev _ rfl 63 (.tmp 108) (.tmp 107) rfl 3 (by kernel_rfl) wx.heap.size (j * 3) _ lb [.int .i64 (z : Int), .slice A8 mm c8, .slice A7 (pth (lvsK x size q) z).length c7] (by go_simp) rfl HLB.out rfl (pf_one _ _ _ _ _ _ _) (by rw [HLBL.out]; omega) ?_; intro w9 a1 a2 a3; have HL9 := Lib.hid a1; have HK9 := Lib.hid a2; clear a1 a2 a3))
          have HX9 : Hid (Below wx.heap.size wx w9) := Lib.hid (((Kp.of_below (S := fun _ => False) (below_thenB hy.out hy.out.size HXX8.out)).after HK9.out (fun i hi e => by omega)).below (Nat.le_refl _) (fun _ h => h.elim))
          have HL10 : Hid (BLn rPf 3 63 pfZ c w9 wx.heap.size (prfL x size q ((spotsL nl q c).take (j + 1)))) := Lib.hid (by
            obtain ⟨ly, hly, _⟩ := hl.out.blk (show pfZ.length = 3 from rfl)
            have hgy := hly.lt
            have hg7 := HX7.out.size
            rw [HTS.out]
            refine BLn.put (xs := [.int .i64 (z : Int), .slice A8 mm c8, .slice A7 (pth (lvsK x size q) z).length c7]) (hl.out.kept HXX8.out) rfl (by rw [HTL.out]; exact hjc) rfl ?_ HLB.out (by rw [HTL.out]; exact HL9.out) HK9.out
            exact pf_stable HO8.out (HO7.out.kept' HX8.out) (by have := HMM.out; unfold lim; omega) (by have := HPL.out z hzq; unfold lim; omega) (fun b e => by omega) (fun b e => by omega))
          go_roundw
          case rel => exact ⟨j + 1, by omega, by go_num, HL10, HX9⟩
          case measure => simp [intOf]; omega
        · obtain rfl : c = j := by omega
          go_wp2_with fail
          go_ret2
          have h9 := hl.out
          rw [List.take_of_length_le (by rw [HSL.out]; exact Nat.le_refl _)] at h9
          have hl9 : (prfL x size q (spotsL nl q c)).length = c := by rw [prfL_length, HSL.out]
          exact ⟨_, _, rfl, h9.ls hl9 (by unfold lim; omega), below_thenB HBx.out HBx.out.size hy.out⟩
end Go.Proofs.YtgjgofjabdjclaaDoor
