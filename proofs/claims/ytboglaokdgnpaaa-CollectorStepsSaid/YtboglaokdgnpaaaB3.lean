/- Several texts in one: Vm, Vn, Wm, Wp. -/
import Derived.Test.YtboglaokdgnpaaaA25
import Derived.Test.YtboglaokdgnpaaaB2
import Derived.Test.YtboglaokdgnpaaaA31
import Derived.Test.YtboglaokdgnpaaaB1
import Derived.Test.YtboglaokdgnpaaaA29
import Derived.Test.YtboglaokdgnpaaaA15
/- A plan is safe, plainly. -/
namespace Go.Proofs.Ytboglaokdgnpaaa
open Go Gf

theorem hasB_mem {m : List (List UInt8)} {s : List UInt8} : hasB m s = true ↔ s ∈ m := by
 simp [hasB]
/-- A state in which the live stripes, their places and the counts are those of the beginning. -/
structure Good (x : Si) (st : St) : Prop where
 live : ∀ y, liveT st y = liveT (st0 x) y
 pl : ∀ y, liveT (st0 x) y = true → st.pl y = (st0 x).pl y
 need : st.need = (st0 x).need
 drop : st.drop = (st0 x).drop
 nam : st.nam = (st0 x).nam
 ref : st.ref = (st0 x).ref
theorem Good.forget {x : Si} : ∀ (ids : List (List UInt8)) {st : St}, Good x st → (∀ id ∈ ids, (st0 x).drop id = true) → Good x (ids.foldl forgetStep st)
 | [], _, h, _ => h
 | a :: l, st, h, hd => by
  have ha : st.drop a = true := by rw [h.drop]; exact hd a (by simp)
  refine Good.forget l (st := forgetStep st a) ⟨fun y => (liveT_forget ha y).trans (h.live y), fun y hy => ?_, h.need, h.drop, h.nam, h.ref⟩ (fun id hid => hd id (by simp [hid]))
  show (if y = a then none else st.pl y) = _
  rw [if_neg (fun e => by
   subst e
   have h0 : (st0 x).drop y = true := hd y (by simp)
   simp [liveT, h0] at hy)]
  exact h.pl y hy
theorem cnt_has {l : List Rf} {n : List UInt8} : 0 < cntN l n ↔ ∃ r ∈ l, r.1 = n := by
 have h := cnt_pos l n
 constructor
 ·
  intro h1
  rw [decide_eq_true h1] at h
  obtain ⟨r, hr, he⟩ := List.any_eq_true.1 h.symm
  exact ⟨r, hr, by simpa using he⟩
 ·
  rintro ⟨r, hr, he⟩
  have : (l.any fun r => r.1 == n) = true := List.any_eq_true.2 ⟨r, hr, by simpa using he⟩
  rw [this] at h
  simpa using h
end Go.Proofs.Ytboglaokdgnpaaa
/- What a plan deletes, forgets and proposes, plainly. -/
namespace Go.Proofs.Ytboglaokdgnpaaa
open Go Gf

end Go.Proofs.Ytboglaokdgnpaaa
/- The reference's Condemning; IsSafe for a deletion, a forgetting, a proposal. -/
namespace Go.Proofs.Ytboglaokdgnpaaa
open Go Go.RowKit Gf Sha

def condL (c ids : List (List UInt8)) : List (List UInt8) := ids.foldl addS c
def condY (y : Si) (ids : List (List UInt8)) : Si := { y with cond := condL y.cond ids }
theorem condL_step (c l : List (List UInt8)) (s : List UInt8) : condL c (l ++ [s]) = addS (condL c l) s := by
 unfold condL; rw [List.foldl_append]; rfl
theorem condL_len : ∀ (l c : List (List UInt8)), (condL c l).length ≤ c.length + l.length
 | [], c => Nat.le_refl _
 | a :: l, c => by
  have h1 := condL_len l (addS c a)
  have h2 := addS_len c a
  have h3 : condL c (a :: l) = condL (addS c a) l := rfl
  rw [h3, List.length_cons]
  omega
theorem siqZero : (Try.prog.info? 26).map (·.zero) = some (some (.agg siZ.toArray)) := by kernel_rfl
set_option maxRecDepth 100000 in
set_option maxHeartbeats 2000000 in
theorem condemning_any (cx : List Value) (y : Si) (w : World) (hx : rSi w cx y) (A : Option Addr) (n c : Nat) (ids : List (List UInt8)) (h : LS rStr 1 16 w A n c ids) (hbd : y.cond.length + n ≤ 100000) :
  Calls Try.prog 67 #[.agg cx.toArray, .slice A n c] w fun e w' => (∃ cs, e = .returned (.agg cs.toArray) ∧ rSi w' cs (condY y ids)) ∧ Below w.heap.size w w' := by
 obtain ⟨a0, n0, c0, a1, n1, c1, a2, n2, c2, a3, n3, c3, a4, n4, c4, a5, n5, c5, rfl, hq⟩ := hx
 have hn := h.len_le
 have H := Lib.hid h
 have HL := Lib.hid h.1
 have HQ := Lib.hid hq
 have HBD := Lib.hid hbd
 clear h hq hbd
 go_enter Try.func67, Try.ntmps67
 go_wp2_with (first
  | ((with_reducible show OpW 2); refine wpList_box _ rfl 26 (.tmp 0) rfl (siC a0 n0 c0 a1 n1 c1 a2 n2 c2 a3 n3 c3 a4 n4 c4 a5 n5 c5 y.pct) rfl ?_; intro w1 y1 y2 y3; have HB1 := Lib.hid y2; have HS1 := Lib.hid y1; clear y1 y2 y3)
  | ((with_reducible show OpW 4); refine wpList_alloc _ rfl 26 rfl siZ siqZero ?_; intro w2 y1 y2 y3; have HR2 := Lib.hid y1; have HB2 := Lib.hid (below_then HB1.out y2); have HS2 := Lib.hid (HS1.out.kept y2); have HG := Lib.hid HB1.out.size; have HLT := Lib.hid HS1.out.lt; clear y1 y2 y3))
 go_loopw [9] (fun iv wr => ∃ k : Nat, k ≤ n ∧ iv = .int .i64 (k : Int) ∧ Hid (∃ A2 k2 C2, BL wr w.heap.size 26 (siC a0 n0 c0 a1 n1 c1 A2 k2 C2 a3 n3 c3 a4 n4 c4 a5 n5 c5 y.pct) ∧ SiOk wr a0 n0 c0 a1 n1 c1 A2 k2 C2 a3 n3 c3 a4 n4 c4 a5 n5 c5 (condY y (ids.take k))) ∧ Hid (BL wr w1.heap.size 26 siZ) ∧ Hid (Below w.heap.size w wr)) (fun iv _ => n - (intOf iv).toNat)
 case atStart => exact ⟨0, by omega, rfl, Lib.hid ⟨a2, n2, c2, HS2.out, HQ.out.kept HB2.out⟩, HR2, HB2⟩
 case round =>
  obtain ⟨k, hk, rfl, hs', hz, hb⟩ := hrel
  obtain ⟨wx, hwx⟩ : ∃ x, x = wr := ⟨_, rfl⟩
  rw [← hwx] at hs' hz hb ⊢
  clear hwx
  obtain ⟨A2, k2, C2, hsit, hok⟩ := hs'.out
  have HSIT := Lib.hid hsit
  have HOK := Lib.hid hok
  clear hs' hsit hok
  by_cases hlt : k < n
  ·
   obtain ⟨s, g, o, hs, ea, p1⟩ := H.out.str_at hb.out hlt
   have HID := Lib.hid (H.out.str_ok hs)
   have HX := Lib.hid hs
   have HK2 : Hid (k2 ≤ 100000) := Lib.hid (by
    have h1 := HOK.out.cond.1
    have h2 := condL_len (ids.take k) y.cond
    rw [List.length_take] at h2
    have h3 : (condL y.cond (ids.take k)).length = k2 := h1
    have := HBD.out
    omega)
   have HF : Hid (condL y.cond (ids.take (k + 1)) = addS (condL y.cond (ids.take k)) s) := Lib.hid (by rw [take_next HX.out, condL_step])
   subst ea
   clear hs
   have q2 := HSIT.out.get (j := 2) rfl
   go_wp2_with (first
    | (go_at_call 83; refine (radd_any A2 k2 C2 (condL y.cond (ids.take k)) s _ HOK.out.cond HID.out HK2.out).mono ?_; rintro e w3 ⟨A9, c9, rfl, l9, _, b9⟩; have HL9 := Lib.hid l9; have HX3 := Lib.hid b9; have HSIT3 := Lib.hid (HSIT.out.kept b9); clear b9 l9)
    | ((with_reducible show OpN); refine wpList_store1 _ rfl 23 (.tmp 17) (.tmp 16) rfl (strSz _) w.heap.size 2 _ _ (.slice A9 (addS (condL y.cond (ids.take k)) s).length c9) rfl rfl HSIT3.out rfl rfl (by simp) ?_; intro w4 y1 y2 y3; have HSIT4 : Hid (BL w4 w.heap.size 26 (siC a0 n0 c0 a1 n1 c1 A9 (addS (condL y.cond (ids.take k)) s).length c9 a3 n3 c3 a4 n4 c4 a5 n5 c5 y.pct)) := Lib.hid y1; have HK4 := Lib.hid y2; clear y1 y2 y3))
   have HOK3 := Lib.hid (HOK.out.kept HX3.out)
   have HOK4 : Hid (SiOk w4 a0 n0 c0 a1 n1 c1 A9 (addS (condL y.cond (ids.take k)) s).length c9 a3 n3 c3 a4 n4 c4 a5 n5 c5 (condY y (ids.take (k + 1)))) := Lib.hid (by
    have h5 : SiOk w3 a0 n0 c0 a1 n1 c1 A9 (addS (condL y.cond (ids.take k)) s).length c9 a3 n3 c3 a4 n4 c4 a5 n5 c5 (condY y (ids.take (k + 1))) := ⟨HOK3.out.sp, HOK3.out.need, by show LS rStr 1 16 w3 A9 _ c9 (condL y.cond (ids.take (k + 1))); rw [HF.out]; exact HL9.out, HOK3.out.drop, HOK3.out.carr, HOK3.out.held, HOK3.out.pct⟩
    exact h5.put HK4.out HSIT3.out)
   have HZ4 := Lib.hid (HK4.out.bl (hz.out.kept HX3.out) (fun e => by have := HLT.out; omega))
   have HB4 : Hid (Below w.heap.size w w4) := Lib.hid (((Kp.of_below (S := fun _ => False) (below_thenB hb.out hb.out.size HX3.out)).after HK4.out (fun i hi e => by omega)).below (Nat.le_refl _) (fun _ h => h.elim))
   go_roundw
   case rel => exact ⟨k + 1, by omega, by go_num, Lib.hid ⟨_, _, _, HSIT4.out, HOK4.out⟩, HZ4, HB4⟩
   case measure => simp [intOf]; omega
  ·
   obtain rfl : k = n := by omega
   rw [take_end HL.out] at HOK
   go_wp2_with (first
    | ((with_reducible show OpW 19); refine wpList_loadv _ rfl 26 (.tmp 2) rfl 7 (by kernel_rfl) w.heap.size 0 _ rfl (BL.all HSIT.out) rfl ?_)
    | ((with_reducible show OpN); refine wpList_storev _ rfl 26 (.tmp 4) (.tmp 19) rfl 7 (by kernel_rfl) w1.heap.size 0 _ siZ (siC a0 n0 c0 a1 n1 c1 A2 k2 C2 a3 n3 c3 a4 n4 c4 a5 n5 c5 y.pct) rfl rfl hz.out rfl (one_si _ _ _ _ _ _ _ _ _ _ _ _ _ _ _ _ _ _ _) (by decide) ?_; intro w3 y1 y2 y3; have HT3 : Hid (BL w3 w1.heap.size 26 (siC a0 n0 c0 a1 n1 c1 A2 k2 C2 a3 n3 c3 a4 n4 c4 a5 n5 c5 y.pct)) := Lib.hid y1; have HK3 := Lib.hid y2; clear y1 y2 y3))
   (try simp only [Exit.inBlock, Exit.then])
   refine bodyPost_ret (results_at w3 Try.results67 (n := 7) (by kernel_rfl) (g := w1.heap.size) (o := 0) rfl (ms := siC a0 n0 c0 a1 n1 c1 A2 k2 C2 a3 n3 c3 a4 n4 c4 a5 n5 c5 y.pct) (BL.all HT3.out) rfl) rfl ⟨⟨_, rfl, ?_⟩, ((Kp.of_below (S := fun _ => False) hb.out).after HK3.out (fun i hi e => by have := HG.out; omega)).below (Nat.le_refl _) (fun _ h => h.elim)⟩
   exact ⟨_, _, _, _, _, _, _, _, _, _, _, _, _, _, _, _, _, _, rfl, HOK.out.put HK3.out hz.out⟩
/-- Is a step safe, as the reference says? -/
def fg2 (y : Si) (id : List UInt8) : Bool := (findS y id).isSome && hasB y.drop id
def rw2 (y : Si) (r : Rf) : Bool := y.sp.any fun s => liveB y s.id && s.refs.any fun q => decide (q = r)
def lv2 (y : Si) (id : List UInt8) : Bool := (findS y id).isSome && liveB y id
def rSafe (y : Si) (s : Stp) : Bool :=
 if s.kind = 3 then heldB y s.pc && hasB y.drop s.pc.1
 else if s.kind = 4 then s.sts.all (fg2 y)
 else if s.kind = 1 then s.refs.all (rw2 y)
 else if s.kind = 2 then s.sts.all (lv2 y) && decide ((uncov (condY y s.sts)).length = (uncov y).length)
 else false
end Go.Proofs.Ytboglaokdgnpaaa
/- Steps that are safe, plainly: the collector's maps and the reference's situation agree. -/
namespace Go.Proofs.Ytboglaokdgnpaaa
open Go Gf

theorem hasB_app (a b : List (List UInt8)) (z : List UInt8) : hasB (a ++ b) z = (hasB a z || hasB b z) := by
 unfold hasB; rw [List.any_append]
theorem hasB_addS (l : List (List UInt8)) (s z : List UInt8) : hasB (addS l s) z = (hasB l z || (s == z)) := by
 unfold addS
 have e := List.takeWhile_append_dropWhile (p := fun y => decide (y < s)) (l := l)
 by_cases hh : (l.dropWhile fun y => decide (y < s)).head? = some s
 ·
  rw [if_pos hh]
  by_cases hz : s = z
  ·
   subst hz
   have h1 : s ∈ l := (List.dropWhile_sublist _).subset (List.mem_of_head? hh)
   rw [hasB_mem.2 h1]; rfl
  ·
   rw [show (s == z) = false from by simpa using hz, Bool.or_false]
 ·
  rw [if_neg hh, hasB_app]
  have h2 : hasB (s :: l.dropWhile fun y => decide (y < s)) z = ((s == z) || hasB (l.dropWhile fun y => decide (y < s)) z) := rfl
  rw [h2]
  have h3 : hasB l z = (hasB (l.takeWhile fun y => decide (y < s)) z || hasB (l.dropWhile fun y => decide (y < s)) z) := by rw [← hasB_app, e]
  rw [h3]
  cases hasB (l.takeWhile fun y => decide (y < s)) z <;> cases (s == z) <;> cases hasB (l.dropWhile fun y => decide (y < s)) z <;> rfl
theorem hasB_condL : ∀ (ids c : List (List UInt8)) (z : List UInt8), hasB (condL c ids) z = (hasB c z || hasB ids z)
 | [], c, z => by simp [condL, hasB]
 | a :: l, c, z => by
  show hasB (condL (addS c a) l) z = (hasB c z || ((a == z) || hasB l z))
  rw [hasB_condL l, hasB_addS, Bool.or_assoc]
theorem hasB_wout (m d : List (List UInt8)) (z : List UInt8) : hasB (woutL m d) z = (hasB m z && !hasB d z) := by
 rw [Bool.eq_iff_iff]
 simp only [hasB_mem, woutL, List.mem_filter, Bool.and_eq_true]
theorem filt_len {α : Type} (l : List α) (p q : α → Bool) (h : ∀ a ∈ l, p a = true → q a = true) : (l.filter q).length = (l.filter p).length ↔ ∀ a ∈ l, q a = true → p a = true := by
 induction l with
 | nil => simp
 | cons a l ih =>
  have ih' := ih (fun b hb => h b (by simp [hb]))
  have hle : (l.filter p).length ≤ (l.filter q).length := by
   have : l.filter p = (l.filter q).filter p := by
    rw [List.filter_filter]
    refine List.filter_congr fun b hb => ?_
    cases hp : p b with
    | false => rfl
    | true => rw [h b (by simp [hb]) hp]; rfl
   rw [this]; exact List.length_filter_le _ _
  cases hp : p a with
  | true =>
   have hq := h a (by simp) hp
   rw [List.filter_cons_of_pos hp, List.filter_cons_of_pos hq, List.length_cons, List.length_cons]
   constructor
   ·
    intro e b hb hqb
    rcases List.mem_cons.1 hb with rfl | hb
    ·
     exact hp
    ·
     exact ih'.1 (by omega) b hb hqb
   ·
    intro e
    rw [ih'.2 (fun b hb => e b (by simp [hb]))]
  | false =>
   cases hq : q a with
   | true =>
    rw [List.filter_cons_of_neg (p := p) (by simp [hp]), List.filter_cons_of_pos hq, List.length_cons]
    constructor
    ·
     intro e; omega
    ·
     intro e
     have := e a (by simp) hq
     rw [hp] at this; cases this
   | false =>
    rw [List.filter_cons_of_neg (p := p) (by simp [hp]), List.filter_cons_of_neg (p := q) (by simp [hq]), ih']
    constructor
    ·
     intro e b hb hqb
     rcases List.mem_cons.1 hb with rfl | hb
     ·
      rw [hq] at hqb; cases hqb
     ·
      exact e b hb hqb
    ·
     intro e b hb hqb
     exact e b (by simp [hb]) hqb

theorem inj_ids : ∀ {l : List Sp}, (l.map (·.id)).Nodup → ∀ {a b : Sp}, a ∈ l → b ∈ l → a.id = b.id → a = b
 | [], _, a, _, ha, _, _ => by cases ha
 | c :: l, hn, a, b, ha, hb, he => by
  have hn' := List.nodup_cons.1 (show (c.id :: l.map (·.id)).Nodup from hn)
  rcases List.mem_cons.1 ha with ea | ha
  ·
   rcases List.mem_cons.1 hb with eb | hb
   ·
    rw [ea, eb]
   ·
    exact absurd (List.mem_map.2 ⟨b, hb, by rw [← he, ea]⟩) hn'.1
  ·
   rcases List.mem_cons.1 hb with eb | hb
   ·
    exact absurd (List.mem_map.2 ⟨a, ha, by rw [he, eb]⟩) hn'.1
   ·
    exact inj_ids hn'.2 ha hb he
/-- What a step makes of the reference's situation. -/
def dropHeld (y : Si) (p : Pc) : Si := { y with held := y.held.filter fun q => !decide (q = p) }
def forgetY (y : Si) (ids : List (List UInt8)) : Si := { y with sp := y.sp.filter fun t => !hasB ids t.id, cond := woutL y.cond ids, carr := woutL y.carr ids }
def rAfter (y : Si) (s : Stp) : Si := if s.kind = 3 then dropHeld y s.pc else if s.kind = 4 then forgetY y s.sts else if s.kind = 2 then condY y s.sts else y
/-- The maps say what the situation says. -/
structure Rel (x : Si) (st : St) (y : Si) : Prop where
 inv : Inv x st
 sp : y.sp = x.sp.filter fun s => (st.pl s.id).isSome
 need : ∀ n, st.need n = hasB y.need n
 cond : ∀ n, st.cond n = hasB y.cond n
 drop : ∀ n, st.drop n = hasB y.drop n
 carr : ∀ n, st.carr n = hasB y.carr n
 held : ∀ p, st.held p = heldB y p
section
variable {x : Si} {st : St} {y : Si}
theorem Rel.find (h : Rel x st y) (id : List UInt8) : (findS y id).isSome = (st.pl id).isSome := by
 rw [Bool.eq_iff_iff]
 unfold findS
 rw [List.find?_isSome]
 constructor
 ·
  rintro ⟨s, hs, he⟩
  rw [h.sp, List.mem_filter] at hs
  have e : s.id = id := by simpa using he
  rw [← e]; exact hs.2
 ·
  intro hs
  obtain ⟨i, hi⟩ := Option.isSome_iff_exists.1 hs
  obtain ⟨s, h1, h2⟩ := h.inv.pl id i hi
  exact ⟨s, by rw [h.sp, List.mem_filter]; exact ⟨List.mem_of_getElem? h1, by rw [h2]; exact hs⟩, by simpa using h2⟩
theorem Rel.liveB (h : Rel x st y) (id : List UInt8) : Go.Proofs.Ytboglaokdgnpaaa.liveB y id = (!st.cond id && !st.drop id) := by
 rw [h.cond, h.drop]; rfl
theorem Rel.live (h : Rel x st y) (id : List UInt8) : lv2 y id = liveT st id := by
 show ((findS y id).isSome && Go.Proofs.Ytboglaokdgnpaaa.liveB y id) = ((st.pl id).isSome && (!st.cond id && !st.drop id))
 rw [h.find, h.liveB]
theorem Rel.liveRefs (h : Rel x st y) : liveRefsT x st = Go.Proofs.Ytboglaokdgnpaaa.liveRefs y y.sp := by
 unfold liveRefsT Go.Proofs.Ytboglaokdgnpaaa.liveRefs
 rw [h.sp, List.filter_filter]
 congr 1
 refine List.filter_congr fun s _ => ?_
 show ((st.pl s.id).isSome && (!st.cond s.id && !st.drop s.id)) = _
 rw [h.liveB, Bool.and_comm]
theorem Rel.cov (h : Rel x st y) (n : List UInt8) : covT st n = coverB y n := by
 rw [Bool.eq_iff_iff]
 unfold covT coverB
 rw [decide_eq_true_iff, h.inv.nam, h.liveRefs, cnt_has, List.any_eq_true]
 unfold Go.Proofs.Ytboglaokdgnpaaa.liveRefs
 constructor
 ·
  rintro ⟨r, hr, he⟩
  obtain ⟨s, hs, hrs⟩ := List.mem_flatMap.1 hr
  rw [List.mem_filter] at hs
  exact ⟨s, hs.1, by rw [hs.2, Bool.true_and]; exact List.any_eq_true.2 ⟨r, hrs, by simpa using he⟩⟩
 ·
  rintro ⟨s, hs, he⟩
  rw [Bool.and_eq_true] at he
  obtain ⟨r, hr, h1⟩ := List.any_eq_true.1 he.2
  exact ⟨r, List.mem_flatMap.2 ⟨s, List.mem_filter.2 ⟨hs, he.1⟩, hr⟩, by simpa using h1⟩
theorem cntR_has {l : List Rf} {r : Rf} : 0 < cntR l r ↔ r ∈ l := by
 unfold cntR
 constructor
 ·
  intro h
  have h1 : 0 < (l.filter fun q => q == r).length := by omega
  obtain ⟨q, hq⟩ := List.exists_mem_of_length_pos h1
  rw [List.mem_filter] at hq
  have : q = r := by simpa using hq.2
  exact this ▸ hq.1
 ·
  intro h
  have : 0 < (l.filter fun q => q == r).length := List.length_pos_of_mem (List.mem_filter.2 ⟨h, by simp⟩)
  omega
theorem Rel.ref (h : Rel x st y) (r : Rf) : decide (0 < st.ref r) = rw2 y r := by
 rw [Bool.eq_iff_iff]
 unfold rw2
 rw [decide_eq_true_iff, h.inv.ref, h.liveRefs, cntR_has, List.any_eq_true]
 unfold Go.Proofs.Ytboglaokdgnpaaa.liveRefs
 constructor
 ·
  intro hr
  obtain ⟨s, hs, hrs⟩ := List.mem_flatMap.1 hr
  rw [List.mem_filter] at hs
  exact ⟨s, hs.1, by rw [hs.2, Bool.true_and]; exact List.any_eq_true.2 ⟨r, hrs, by simp⟩⟩
 ·
  rintro ⟨s, hs, he⟩
  rw [Bool.and_eq_true] at he
  obtain ⟨q, hq, h1⟩ := List.any_eq_true.1 he.2
  have h2 : q = r := by simpa using h1
  exact List.mem_flatMap.2 ⟨s, List.mem_filter.2 ⟨hs, he.1⟩, h2 ▸ hq⟩
theorem condRun_cond (x : Si) : ∀ (ids : List (List UInt8)) (st : St) (z : List UInt8), (condRun x st ids).cond z = (st.cond z || (liveT st z && hasB ids z))
 | [], st, z => by simp [condRun, hasB]
 | a :: l, st, z => by
  show (condRun x (condStep x st a) l).cond z = _
  rw [condRun_cond x l]
  have e2 : hasB (a :: l) z = ((a == z) || hasB l z) := rfl
  rw [e2]
  unfold condStep
  by_cases hl : liveT st a = true
  ·
   rw [if_pos hl]
   show ((if z = a then true else st.cond z) || (liveT (condOn st a) z && hasB l z)) = _
   rw [liveT_condOn]
   by_cases hz : z = a
   ·
    subst hz
    rw [if_pos rfl, hl]; simp
   ·
    rw [if_neg hz, show (z == a) = false from by simpa using hz, show (a == z) = false from by simpa using fun e => hz e.symm]
    simp
  ·
   rw [if_neg hl]
   by_cases hz : a = z
   ·
    subst hz
    rw [show liveT st a = false from by simpa using hl]; simp
   ·
    rw [show (a == z) = false from by simpa using hz, Bool.false_or]
theorem Rel.condRun (hv : siB x = true) (h : Rel x st y) {ids : List (List UInt8)} (hl : ids.all (liveT st) = true) : Rel x (condRun x st ids) (condY y ids) := by
 have hs := condRun_same x ids st
 refine ⟨h.inv.condRun hv ids, ?_, fun n => ?_, fun n => ?_, fun n => ?_, fun n => ?_, fun p => ?_⟩
 ·
  rw [hs.1]; exact h.sp
 ·
  rw [hs.2.1]; exact h.need n
 ·
  rw [condRun_cond]
  show _ = hasB (condL y.cond ids) n
  rw [hasB_condL, h.cond]
  cases hh : hasB ids n with
  | false => simp
  | true => rw [List.all_eq_true.1 hl n (hasB_mem.1 hh)]; simp
 ·
  rw [hs.2.2.1]; exact h.drop n
 ·
  rw [hs.2.2.2.1]; exact h.carr n
 ·
  rw [hs.2.2.2.2]; exact h.held p
theorem liveB_condY (y : Si) (ids : List (List UInt8)) (z : List UInt8) : Go.Proofs.Ytboglaokdgnpaaa.liveB (condY y ids) z = (Go.Proofs.Ytboglaokdgnpaaa.liveB y z && !hasB ids z) := by
 show (!hasB (condL y.cond ids) z && !hasB y.drop z) = ((!hasB y.cond z && !hasB y.drop z) && !hasB ids z)
 rw [hasB_condL]
 cases hasB y.cond z <;> cases hasB y.drop z <;> cases hasB ids z <;> rfl
theorem cover_condY {ids : List (List UInt8)} {n : List UInt8} (h : coverB (condY y ids) n = true) : coverB y n = true := by
 unfold coverB at h ⊢
 obtain ⟨s, hs, he⟩ := List.any_eq_true.1 h
 rw [Bool.and_eq_true, liveB_condY, Bool.and_eq_true] at he
 exact List.any_eq_true.2 ⟨s, hs, by rw [he.1.1, he.2]; rfl⟩
theorem Rel.condOk (hv : siB x = true) (h : Rel x st y) {ids : List (List UInt8)} (hl : ids.all (liveT st) = true) :
  condOk x (Go.Proofs.Ytboglaokdgnpaaa.condRun x st ids) ids = decide ((uncov (condY y ids)).length = (uncov y).length) := by
 have h' := h.condRun hv hl
 rw [Bool.eq_iff_iff, decide_eq_true_iff]
 have hu : (uncov (condY y ids)).length = (uncov y).length ↔ ∀ n ∈ y.need, (!coverB (condY y ids) n) = true → (!coverB y n) = true :=
  filt_len y.need (fun n => !coverB y n) (fun n => !coverB (condY y ids) n) (fun n _ hn => by
   cases hc : coverB (condY y ids) n with
   | false => rfl
   | true => rw [cover_condY hc] at hn; exact hn)
 rw [hu]
 unfold Go.Proofs.Ytboglaokdgnpaaa.condOk
 constructor
 ·
  intro hk n hn hc
  cases hcy : coverB y n with
  | false => rfl
  | true =>
   exfalso
   have hc' : coverB (condY y ids) n = false := by simpa using hc
   unfold coverB at hcy
   obtain ⟨s, hs, he⟩ := List.any_eq_true.1 hcy
   rw [Bool.and_eq_true] at he
   obtain ⟨r, hr, hrn⟩ := List.any_eq_true.1 he.2
   have hrn : r.1 = n := by simpa using hrn
   cases hi : hasB ids s.id with
   | false =>
    have : coverB (condY y ids) n = true := by
     unfold coverB
     exact List.any_eq_true.2 ⟨s, hs, by rw [liveB_condY, he.1, hi, he.2]; rfl⟩
    rw [hc'] at this; cases this
   | true =>
    have hid := hasB_mem.1 hi
    obtain ⟨i, s', h1, h2, h3, h4⟩ := h.inv.live (List.all_eq_true.1 hl _ hid)
    have hss : s' = s := by
     rw [h.sp, List.mem_filter] at hs
     exact inj_ids (siB_ids hv) (List.mem_of_getElem? h2) hs.1 h3
    have h5 := List.all_eq_true.1 (List.all_eq_true.1 hk _ hid) r (by rw [refsAt_run, h4, hss]; exact hr)
    unfold needOk at h5
    rw [h'.need, h'.cov, hrn, show hasB (condY y ids).need n = true from hasB_mem.2 hn, hc'] at h5
    cases h5
 ·
  intro hk
  refine List.all_eq_true.2 fun id hid => List.all_eq_true.2 fun r hr => ?_
  obtain ⟨i, s', h1, h2, h3, h4⟩ := h.inv.live (List.all_eq_true.1 hl _ hid)
  rw [refsAt_run, h4] at hr
  unfold needOk
  rw [h'.need, h'.cov]
  cases hn : hasB (condY y ids).need r.1 with
  | false => rfl
  | true =>
   cases hc : coverB (condY y ids) r.1 with
   | true => rfl
   | false =>
    have h5 := hk r.1 (hasB_mem.1 hn) (by rw [hc]; rfl)
    have h6 : coverB y r.1 = true := by
     unfold coverB
     have hlv := h.live id
     rw [List.all_eq_true.1 hl _ hid] at hlv
     unfold lv2 at hlv
     rw [Bool.and_eq_true] at hlv
     refine List.any_eq_true.2 ⟨s', ?_, ?_⟩
     ·
      rw [h.sp, List.mem_filter]
      exact ⟨List.mem_of_getElem? h2, by rw [h3, h1]; rfl⟩
     ·
      rw [h3, hlv.2, Bool.true_and]
      exact List.any_eq_true.2 ⟨r, hr, by simp⟩
    rw [h6] at h5; cases h5
theorem Rel.take (hv : siB x = true) (h : Rel x st y) (s : Stp) : takeB x st s = rSafe y s := by
 unfold takeB rSafe
 by_cases h3 : s.kind = 3
 ·
  rw [if_pos h3, if_pos h3, h.held, h.drop]
 rw [if_neg h3, if_neg h3]
 by_cases h4 : s.kind = 4
 ·
  rw [if_pos h4, if_pos h4]
  congr 1
  funext id
  unfold fgOk fg2
  rw [h.find, h.drop]
 rw [if_neg h4, if_neg h4]
 by_cases h1 : s.kind = 1
 ·
  rw [if_pos h1, if_pos h1]
  congr 1
  funext r
  exact h.ref r
 rw [if_neg h1, if_neg h1]
 by_cases h2 : s.kind = 2
 ·
  rw [if_pos h2, if_pos h2]
  have e : lv2 y = liveT st := funext h.live
  rw [e]
  unfold condB
  cases hl : s.sts.all (liveT st) with
  | false => rfl
  | true => rw [h.condOk hv hl]
 ·
  rw [if_neg h2, if_neg h2]
theorem forget_run : ∀ (ids : List (List UInt8)) (st : St), (∀ z, (ids.foldl forgetStep st).pl z = if hasB ids z then none else st.pl z) ∧ (∀ z, (ids.foldl forgetStep st).cond z = (st.cond z && !hasB ids z)) ∧ (∀ z, (ids.foldl forgetStep st).carr z = (st.carr z && !hasB ids z)) ∧ (ids.foldl forgetStep st).need = st.need ∧ (ids.foldl forgetStep st).drop = st.drop ∧ (ids.foldl forgetStep st).held = st.held
 | [], st => ⟨fun z => by simp [hasB], fun z => by simp [hasB], fun z => by simp [hasB], rfl, rfl, rfl⟩
 | a :: l, st => by
  obtain ⟨h1, h2, h3, h4, h5, h6⟩ := forget_run l (forgetStep st a)
  have e2 : ∀ z, hasB (a :: l) z = ((a == z) || hasB l z) := fun z => rfl
  refine ⟨fun z => ?_, fun z => ?_, fun z => ?_, h4, h5, h6⟩
  ·
   rw [List.foldl_cons, h1, e2]
   show (if hasB l z = true then none else (if z = a then none else st.pl z)) = _
   by_cases hz : z = a
   ·
    subst hz; simp
   ·
    rw [if_neg hz, show (a == z) = false from by simpa using fun e => hz e.symm, Bool.false_or]
  ·
   rw [List.foldl_cons, h2, e2]
   show ((if z = a then false else st.cond z) && !hasB l z) = _
   by_cases hz : z = a
   ·
    subst hz; simp
   ·
    rw [if_neg hz, show (a == z) = false from by simpa using fun e => hz e.symm, Bool.false_or]
  ·
   rw [List.foldl_cons, h3, e2]
   show ((if z = a then false else st.carr z) && !hasB l z) = _
   by_cases hz : z = a
   ·
    subst hz; simp
   ·
    rw [if_neg hz, show (a == z) = false from by simpa using fun e => hz e.symm, Bool.false_or]
theorem Rel.after (hv : siB x = true) (h : Rel x st y) {s : Stp} (hs : takeB x st s = true) : Rel x (takeS x st s) (rAfter y s) := by
 have hi := h.inv.takeS hv hs
 unfold takeB at hs
 unfold takeS at hi ⊢
 unfold rAfter
 by_cases h3 : s.kind = 3
 ·
  rw [if_pos h3] at hi ⊢
  rw [if_pos h3]
  refine ⟨hi, h.sp, h.need, h.cond, h.drop, h.carr, fun p => ?_⟩
  show (if p = s.pc then false else st.held p) = (y.held.filter fun q => !decide (q = s.pc)).any fun q => q == p
  rw [h.held]
  unfold heldB
  rw [Bool.eq_iff_iff]
  by_cases hp : p = s.pc
  ·
   rw [if_pos hp]
   simp only [Bool.false_eq_true, List.any_eq_true, false_iff]
   rintro ⟨q, hq, he⟩
   have e : q = p := by simpa using he
   rw [List.mem_filter, e, hp] at hq
   simpa using hq.2
  ·
   rw [if_neg hp, List.any_eq_true, List.any_eq_true]
   constructor
   ·
    rintro ⟨q, hq, he⟩
    have e : q = p := by simpa using he
    exact ⟨q, List.mem_filter.2 ⟨hq, by rw [e]; simpa using hp⟩, he⟩
   ·
    rintro ⟨q, hq, he⟩
    exact ⟨q, (List.mem_filter.1 hq).1, he⟩
 rw [if_neg h3] at hs hi ⊢
 rw [if_neg h3]
 by_cases h4 : s.kind = 4
 ·
  rw [if_pos h4] at hs hi ⊢
  rw [if_pos h4]
  obtain ⟨f1, f2, f3, f4, f5, f6⟩ := forget_run s.sts st
  refine ⟨hi, ?_, fun n => ?_, fun n => ?_, fun n => ?_, fun n => ?_, fun p => ?_⟩
  ·
   show (y.sp.filter fun t => !hasB s.sts t.id) = _
   rw [h.sp, List.filter_filter]
   refine List.filter_congr fun t _ => ?_
   rw [f1]
   cases hasB s.sts t.id <;> simp
  ·
   rw [f4]; exact h.need n
  ·
   rw [f2, h.cond]
   exact (hasB_wout _ _ _).symm
  ·
   rw [f5]; exact h.drop n
  ·
   rw [f3, h.carr]
   exact (hasB_wout _ _ _).symm
  ·
   rw [f6]; exact h.held p
 rw [if_neg h4] at hs hi ⊢
 rw [if_neg h4]
 by_cases h1 : s.kind = 1
 ·
  rw [if_pos h1] at hi ⊢
  rw [if_neg (by omega)]
  exact h
 rw [if_neg h1] at hs hi ⊢
 by_cases h2 : s.kind = 2
 ·
  rw [if_pos h2] at hs ⊢
  rw [if_pos h2]
  unfold condB at hs
  rw [Bool.and_eq_true] at hs
  exact h.condRun hv hs.1
 ·
  rw [if_neg h2] at hs; cases hs
end
theorem Rel.start (x : Si) : Rel x (st0 x) x := by
 refine ⟨Inv.st0 x, ?_, fun _ => rfl, fun _ => rfl, fun _ => rfl, fun _ => rfl, fun _ => rfl⟩
 symm
 rw [List.filter_eq_self]
 intro s hs
 show (plF x.sp s.id).isSome = true
 unfold plF
 rw [List.findIdx?_isSome]
 exact List.any_eq_true.2 ⟨s, hs, by simp⟩
end Go.Proofs.Ytboglaokdgnpaaa
