/- Several texts in one: Ip, Iq, Ir, Is, Ja. -/
import Derived.Test.YtheijpjfpaghfaaGreatDoorC46
import Derived.Test.YtheijpjfpaghfaaGreatDoorC38
/- ref44.ValidToken. -/
namespace Go.Proofs.YtheijpjfpaghfaaGreatDoor
open Go Go.RowKit Gf Sha

/-- A token is valid. -/
def vtkB (s : List UInt8) (i : Int) (x : Sc) : Bool := idB s i && (decide (x.1.length = 32) && decide (x.2.length = 32))
set_option maxRecDepth 100000 in
set_option maxHeartbeats 2000000 in
theorem rvtok_any (s : List UInt8) (i : Int) (x : Sc) (w : World) :
  Calls Tryz.prog 50 #[.agg (tokC s i x).toArray] w fun e w' => e = .returned (.bool (vtkB s i x)) ∧ Below w.heap.size w w' := by
 obtain ⟨a, b⟩ := x
 cases h0 : idB s i with
 | false =>
  have HI := Lib.hid h0
  have HE : Hid (vtkB s i (a, b) = false) := Lib.hid (by rw [vtkB, h0]; rfl)
  clear h0
  go_enter Tryz.func50, Tryz.ntmps50
  go_wp2_with (first
   | ((with_reducible show OpW 1); refine wpList_box _ rfl 45 (.tmp 0) rfl (tokC s i (a, b)) rfl ?_; intro w1 a1 a2 a3; have HT1 := Lib.hid a1; have HB1 := Lib.hid a2; clear a1 a2 a3)
   | ((with_reducible show OpW 4); refine wpList_loadv _ rfl 39 (.tmp 3) rfl 2 (by kernel_rfl) w.heap.size 0 [.string (strB s), .int .i64 i] rfl (At.left (xs := [.string (strB a), .string (strB b)]) (BL.all HT1.out)) rfl ?_)
   | (go_at_call 76; refine (rpiece_any s i w1).mono ?_; rintro e w2 ⟨rfl, b1⟩; rw [HI.out]; have HB2 := Lib.hid (below_thenB HB1.out HB1.out.size b1); have q2 : w2.cell? ⟨w.heap.size, 2, none⟩ = some (.string (strB a)) := BL.get (l := tokC s i (a, b)) (HT1.out.kept b1) (j := 2) rfl; have q3 : w2.cell? ⟨w.heap.size, 3, none⟩ = some (.string (strB b)) := BL.get (l := tokC s i (a, b)) (HT1.out.kept b1) (j := 3) rfl; clear b1))
  go_ret
  exact ⟨ret_bool HE.out.symm, HB2.out⟩
 | true =>
  have HI := Lib.hid h0
  by_cases h1 : a.length = 32
  ·
   have f1 : (((strB a).size : Int) == 32) = true := by rw [strB_size, beq_iff_eq]; omega
   by_cases h2 : b.length = 32
   ·
    have f2 : (((strB b).size : Int) == 32) = true := by rw [strB_size, beq_iff_eq]; omega
    have HE : Hid (vtkB s i (a, b) = true) := Lib.hid (by simp [vtkB, h0, h1, h2])
    clear h0 h1 h2
    go_enter Tryz.func50, Tryz.ntmps50
    go_wp2_with (first
     | ((with_reducible show OpW 1); refine wpList_box _ rfl 45 (.tmp 0) rfl (tokC s i (a, b)) rfl ?_; intro w1 a1 a2 a3; have HT1 := Lib.hid a1; have HB1 := Lib.hid a2; clear a1 a2 a3)
     | ((with_reducible show OpW 4); refine wpList_loadv _ rfl 39 (.tmp 3) rfl 2 (by kernel_rfl) w.heap.size 0 [.string (strB s), .int .i64 i] rfl (At.left (xs := [.string (strB a), .string (strB b)]) (BL.all HT1.out)) rfl ?_)
     | (go_at_call 76; refine (rpiece_any s i w1).mono ?_; rintro e w2 ⟨rfl, b1⟩; rw [HI.out]; have HB2 := Lib.hid (below_thenB HB1.out HB1.out.size b1); have q2 : w2.cell? ⟨w.heap.size, 2, none⟩ = some (.string (strB a)) := BL.get (l := tokC s i (a, b)) (HT1.out.kept b1) (j := 2) rfl; have q3 : w2.cell? ⟨w.heap.size, 3, none⟩ = some (.string (strB b)) := BL.get (l := tokC s i (a, b)) (HT1.out.kept b1) (j := 3) rfl; clear b1))
    go_ret
    exact ⟨ret_bool HE.out.symm, HB2.out⟩
   ·
    have f2 : (((strB b).size : Int) == 32) = false := by rw [strB_size, beq_eq_false_iff_ne]; omega
    have HE : Hid (vtkB s i (a, b) = false) := Lib.hid (by simp [vtkB, h2])
    clear h0 h1 h2
    go_enter Tryz.func50, Tryz.ntmps50
    go_wp2_with (first
     | ((with_reducible show OpW 1); refine wpList_box _ rfl 45 (.tmp 0) rfl (tokC s i (a, b)) rfl ?_; intro w1 a1 a2 a3; have HT1 := Lib.hid a1; have HB1 := Lib.hid a2; clear a1 a2 a3)
     | ((with_reducible show OpW 4); refine wpList_loadv _ rfl 39 (.tmp 3) rfl 2 (by kernel_rfl) w.heap.size 0 [.string (strB s), .int .i64 i] rfl (At.left (xs := [.string (strB a), .string (strB b)]) (BL.all HT1.out)) rfl ?_)
     | (go_at_call 76; refine (rpiece_any s i w1).mono ?_; rintro e w2 ⟨rfl, b1⟩; rw [HI.out]; have HB2 := Lib.hid (below_thenB HB1.out HB1.out.size b1); have q2 : w2.cell? ⟨w.heap.size, 2, none⟩ = some (.string (strB a)) := BL.get (l := tokC s i (a, b)) (HT1.out.kept b1) (j := 2) rfl; have q3 : w2.cell? ⟨w.heap.size, 3, none⟩ = some (.string (strB b)) := BL.get (l := tokC s i (a, b)) (HT1.out.kept b1) (j := 3) rfl; clear b1))
    go_ret
    exact ⟨ret_bool HE.out.symm, HB2.out⟩
  ·
   have f1 : (((strB a).size : Int) == 32) = false := by rw [strB_size, beq_eq_false_iff_ne]; omega
   have HE : Hid (vtkB s i (a, b) = false) := Lib.hid (by simp [vtkB, h1])
   clear h0 h1
   go_enter Tryz.func50, Tryz.ntmps50
   go_wp2_with (first
    | ((with_reducible show OpW 1); refine wpList_box _ rfl 45 (.tmp 0) rfl (tokC s i (a, b)) rfl ?_; intro w1 a1 a2 a3; have HT1 := Lib.hid a1; have HB1 := Lib.hid a2; clear a1 a2 a3)
    | ((with_reducible show OpW 4); refine wpList_loadv _ rfl 39 (.tmp 3) rfl 2 (by kernel_rfl) w.heap.size 0 [.string (strB s), .int .i64 i] rfl (At.left (xs := [.string (strB a), .string (strB b)]) (BL.all HT1.out)) rfl ?_)
    | (go_at_call 76; refine (rpiece_any s i w1).mono ?_; rintro e w2 ⟨rfl, b1⟩; rw [HI.out]; have HB2 := Lib.hid (below_thenB HB1.out HB1.out.size b1); have q2 : w2.cell? ⟨w.heap.size, 2, none⟩ = some (.string (strB a)) := BL.get (l := tokC s i (a, b)) (HT1.out.kept b1) (j := 2) rfl; have q3 : w2.cell? ⟨w.heap.size, 3, none⟩ = some (.string (strB b)) := BL.get (l := tokC s i (a, b)) (HT1.out.kept b1) (j := 3) rfl; clear b1))
   go_ret
   exact ⟨ret_bool HE.out.symm, HB2.out⟩
end Go.Proofs.YtheijpjfpaghfaaGreatDoor
/- Plain: what Put makes of a list of entries. -/
namespace Go.Proofs.YtheijpjfpaghfaaGreatDoor
open Go Gf Sha

def putEGo (e : En) : List En → Bool → List En
 | [], done => if done then [] else [e]
 | y :: r, done => (if (!done && ltI (idE e) (idE y)) = true then [e] else []) ++ ((if idE y = idE e then [] else [y]) ++ putEGo e r (done || ltI (idE e) (idE y)))
def putE (l : List En) (e : En) : List En := putEGo e l (decide (e.tk.length + e.us.length = 0))
theorem putL_map (rs : List Se) (x : Se) : (putL rs x).map (·.e) = putE (rs.map (·.e)) x.e := by
 have h : ∀ (rs : List Se) (d : Bool), (putGo x rs d).map (·.e) = putEGo x.e (rs.map (·.e)) d := by
  intro rs
  induction rs with
  | nil => intro d; cases d <;> rfl
  | cons y r ih =>
   intro d
   rw [putGo, List.map_append, List.map_append, ih, List.map_cons, putEGo]
   congr 1
   ·
    split <;> rfl
   ·
    congr 1
    split <;> rfl
 exact h rs _
def noId (p : Pid) (l : List En) : List En := l.filter fun y => idE y != p
theorem putEGo_t (e y : En) (r : List En) : putEGo e (y :: r) true = (if idE y = idE e then [] else [y]) ++ putEGo e r true := by simp [putEGo]
theorem putEGo_l {e y : En} (r : List En) (h : ltI (idE e) (idE y) = true) : putEGo e (y :: r) false = e :: ((if idE y = idE e then [] else [y]) ++ putEGo e r true) := by simp [putEGo, h]
theorem putEGo_n {e y : En} (r : List En) (h : ltI (idE e) (idE y) = false) : putEGo e (y :: r) false = (if idE y = idE e then [] else [y]) ++ putEGo e r false := by simp [putEGo, h]
theorem putEGo_done (e : En) : ∀ l : List En, putEGo e l true = noId (idE e) l
 | [] => rfl
 | y :: r => by
  rw [putEGo_t, putEGo_done e r, noId, noId, List.filter_cons]
  by_cases h : idE y = idE e
  ·
   rw [if_pos h, if_neg (by simp [h])]; rfl
  ·
   rw [if_neg h, if_pos (by simpa using h)]; rfl
theorem putEGo_perm (e : En) : ∀ l : List En, (putEGo e l false).Perm (e :: noId (idE e) l)
 | [] => List.Perm.refl _
 | y :: r => by
  cases hl : ltI (idE e) (idE y) with
  | true =>
   have h : ¬ idE y = idE e := fun h => by rw [h, ltI_irr] at hl; cases hl
   rw [putEGo_l r hl, if_neg h, putEGo_done, noId, noId, List.filter_cons, if_pos (by simpa using h)]
   exact List.Perm.refl _
  | false =>
   rw [putEGo_n r hl]
   have ih := putEGo_perm e r
   by_cases h : idE y = idE e
   ·
    rw [if_pos h, List.nil_append, noId, List.filter_cons, if_neg (by simp [h])]
    exact ih
   ·
    rw [if_neg h, noId, List.filter_cons, if_pos (by simpa using h)]
    exact (List.Perm.cons y ih).trans (List.Perm.swap _ _ _)
theorem putE_empty {l : List En} {e : En} (h : e.tk.length + e.us.length = 0) : putE l e = noId (idE e) l := by
 rw [putE, decide_eq_true h, putEGo_done]
theorem putE_perm {l : List En} {e : En} (h : e.tk.length + e.us.length ≠ 0) : (putE l e).Perm (e :: noId (idE e) l) := by
 rw [putE, decide_eq_false h]
 exact putEGo_perm e l
/-- Strictly ascending pieces. -/
def AscE (l : List En) : Prop := (l.map idE).Pairwise fun a b => ltI a b = true
theorem noId_asc {l : List En} (p : Pid) (h : AscE l) : AscE (noId p l) := by
 unfold AscE at *
 exact h.sublist (List.Sublist.map _ List.filter_sublist)
theorem ltI_lt {p q : Pid} (h : ltI p q = false) (hne : p ≠ q) : ltI q p = true := by
 cases h2 : ltI q p with
 | true => rfl
 | false => exact absurd (ltI_tot h h2) hne
theorem putEGo_asc (e : En) : ∀ l : List En, AscE l → AscE (putEGo e l false)
 | [], _ => by simp [putEGo, AscE]
 | y :: r, h => by
  have h1 := h
  unfold AscE at h1
  rw [List.map_cons, List.pairwise_cons] at h1
  cases hl : ltI (idE e) (idE y) with
  | true =>
   have hne : ¬ idE y = idE e := fun h => by rw [h, ltI_irr] at hl; cases hl
   rw [putEGo_l r hl, if_neg hne, putEGo_done]
   have h2 := noId_asc (idE e) h
   rw [noId, List.filter_cons, if_pos (by simpa using hne)] at h2
   show AscE (e :: y :: noId (idE e) r)
   unfold AscE at h2 ⊢
   rw [List.map_cons, List.pairwise_cons]
   refine ⟨fun a ha => ?_, h2⟩
   rw [List.map_cons] at ha
   rcases List.mem_cons.1 ha with rfl | ha
   ·
    exact hl
   ·
    obtain ⟨z, hz, rfl⟩ := List.mem_map.1 ha
    exact ltI_tr hl (h1.1 _ (List.mem_map.2 ⟨z, (List.mem_filter.1 hz).1, rfl⟩))
  | false =>
   rw [putEGo_n r hl]
   have ih := putEGo_asc e r h1.2
   by_cases he : idE y = idE e
   ·
    rw [if_pos he, List.nil_append]; exact ih
   ·
    rw [if_neg he]
    show AscE (y :: putEGo e r false)
    unfold AscE at ih ⊢
    rw [List.map_cons, List.pairwise_cons]
    refine ⟨fun a ha => ?_, ih⟩
    obtain ⟨z, hz, rfl⟩ := List.mem_map.1 ha
    rcases List.mem_cons.1 ((putEGo_perm e r).subset hz) with rfl | hz
    ·
     exact ltI_lt hl (fun h => he h.symm)
    ·
     exact h1.1 _ (List.mem_map.2 ⟨z, (List.mem_filter.1 hz).1, rfl⟩)
theorem putE_asc {l : List En} (e : En) (h : AscE l) : AscE (putE l e) := by
 unfold putE
 cases decide (e.tk.length + e.us.length = 0) with
 | true => rw [putEGo_done]; exact noId_asc _ h
 | false => exact putEGo_asc e l h
end Go.Proofs.YtheijpjfpaghfaaGreatDoor
/- Plain: what is encoded decodes to the same entries. -/
namespace Go.Proofs.YtheijpjfpaghfaaGreatDoor
open Go Gf Sha

theorem rd_sum {b x t : List UInt8} {s : Rd} (h0 : s.err = 0) (h : b.drop s.off = x ++ t) (hx : x.length = 32) : (rdV [] sD b s).1 = x ∧ (rdV [] sD b s).2.err = 0 ∧ b.drop (rdV [] sD b s).2.off = t := by
 obtain ⟨off, last, err⟩ := s
 obtain rfl : err = 0 := h0
 have h' : b.drop off = x ++ t := h
 have hd : sD (b.drop off) = .ok (x, 32) := by
  rw [h', sD_ok (by rw [List.length_append]; omega), ← hx, List.take_left]
 rw [rdV_ok hd]
 refine ⟨rfl, rfl, ?_⟩
 show b.drop (off + 32) = t
 rw [← List.drop_drop, h', ← hx, List.drop_left]
theorem rd_uint {b t : List UInt8} {v : Nat} {s : Rd} (h0 : s.err = 0) (h : b.drop s.off = uv v ++ t) (hv : v < 18446744073709551616) : (rdV 0 uD b s).1 = v ∧ (rdV 0 uD b s).2.err = 0 ∧ b.drop (rdV 0 uD b s).2.off = t := by
 obtain ⟨off, last, err⟩ := s
 obtain rfl : err = 0 := h0
 have h' : b.drop off = uv v ++ t := h
 have hd : uD (b.drop off) = .ok (v, (uv v).length) := by
  rw [h', uD, num_of v t hv]
 rw [rdV_ok hd]
 refine ⟨rfl, rfl, ?_⟩
 show b.drop (off + (uv v).length) = t
 rw [← List.drop_drop, h', List.drop_left]
theorem rd_cnt {b t : List UInt8} {v : Nat} {s : Rd} (h0 : s.err = 0) (h : b.drop s.off = uv v ++ t) (hv : v ≤ 4096) : (rdC b s).1 = v ∧ (rdC b s).2.err = 0 ∧ b.drop (rdC b s).2.off = t := by
 obtain ⟨off, last, err⟩ := s
 obtain rfl : err = 0 := h0
 have h' : b.drop off = uv v ++ t := h
 have hd : cD 4096 (b.drop off) = .ok (v, (uv v).length) := by
  rw [h', cD, num_of v t (by omega)]
  show (if v ≤ 4096 then _ else _) = _
  rw [if_pos hv]
 unfold rdC
 rw [rdV_ok hd]
 refine ⟨rfl, rfl, ?_⟩
 show b.drop (off + (uv v).length) = t
 rw [← List.drop_drop, h', List.drop_left]
theorem rdTk_put (b t : List UInt8) : ∀ (l acc : List Sc) (s : Rd), s.err = 0 → (∀ y ∈ l, y.1.length = 32 ∧ y.2.length = 32) → b.drop s.off = encT l ++ t → (rdTk b l.length (acc, s)).1 = acc ++ l ∧ (rdTk b l.length (acc, s)).2.err = 0 ∧ b.drop (rdTk b l.length (acc, s)).2.off = t
 | [], acc, s, h0, _, h => ⟨by rw [List.append_nil]; rfl, h0, h⟩
 | y :: l, acc, s, h0, hl, h => by
  have hy := hl y (List.mem_cons_self ..)
  have h' : b.drop s.off = y.1 ++ (y.2 ++ (encT l ++ t)) := by rw [h]; simp [encT]
  obtain ⟨a1, a2, a3⟩ := rd_sum h0 h' hy.1
  obtain ⟨b1, b2, b3⟩ := rd_sum a2 a3 hy.2
  have ih := rdTk_put b t l (acc ++ [y]) (rdV [] sD b (rdV [] sD b s).2).2 b2 (fun z hz => hl z (List.mem_cons_of_mem _ hz)) b3
  rw [List.length_cons, rdTk]
  have e : acc ++ [((rdV [] sD b s).1, (rdV [] sD b (rdV [] sD b s).2).1)] = acc ++ [y] := by rw [a1, b1]
  show (rdTk b l.length (acc ++ [((rdV [] sD b s).1, (rdV [] sD b (rdV [] sD b s).2).1)], _)).1 = _ ∧ _
  rw [e]
  exact ⟨by rw [ih.1, List.append_assoc]; rfl, ih.2.1, ih.2.2⟩
theorem rdUs_put (b t : List UInt8) : ∀ (l acc : List (List UInt8)) (s : Rd), s.err = 0 → (∀ y ∈ l, y.length = 32) → b.drop s.off = l.flatten ++ t → (rdUs b l.length (acc, s)).1 = acc ++ l ∧ (rdUs b l.length (acc, s)).2.err = 0 ∧ b.drop (rdUs b l.length (acc, s)).2.off = t
 | [], acc, s, h0, _, h => ⟨by rw [List.append_nil]; rfl, h0, h⟩
 | y :: l, acc, s, h0, hl, h => by
  have h' : b.drop s.off = y ++ (l.flatten ++ t) := by rw [h]; simp
  obtain ⟨a1, a2, a3⟩ := rd_sum h0 h' (hl y (List.mem_cons_self ..))
  have ih := rdUs_put b t l (acc ++ [y]) (rdV [] sD b s).2 a2 (fun z hz => hl z (List.mem_cons_of_mem _ hz)) a3
  rw [List.length_cons, rdUs]
  have e : acc ++ [(rdV [] sD b s).1] = acc ++ [y] := by rw [a1]
  show (rdUs b l.length (acc ++ [(rdV [] sD b s).1], _)).1 = _ ∧ _
  rw [e]
  exact ⟨by rw [ih.1, List.append_assoc]; rfl, ih.2.1, ih.2.2⟩
theorem unz_two (n : Nat) : unz (2 * n) = (n : Int) := by
 unfold unz
 rw [if_neg (by omega)]
 omega
theorem rdRec_put {b t : List UInt8} {e : En} {s : Rd} (h0 : s.err = 0) (hg : GoodE e) (ht : e.tk.length ≤ 4096) (hu : e.us.length ≤ 4096) (h : b.drop s.off = encR e ++ t) : (rdRec b s).1 = e ∧ (rdRec b s).2.err = 0 ∧ b.drop (rdRec b s).2.off = t := by
 obtain ⟨es, ei, et, eu⟩ := e
 have hi0 : 0 ≤ ei := hg.i0
 have hi1 : ei < 16 := hg.i1
 have h' : b.drop s.off = es ++ (uv (2 * ei.toNat) ++ (uv et.length ++ (encT et ++ (uv eu.length ++ (eu.flatten ++ t))))) := by rw [h]; simp [encR]
 obtain ⟨a1, a2, a3⟩ := rd_sum h0 h' hg.s
 obtain ⟨b1, b2, b3⟩ := rd_uint a2 a3 (by omega)
 obtain ⟨c1, c2, c3⟩ := rd_cnt (s := rdA b s) b2 b3 ht
 have t1 := rdTk_put b _ et [] (rdC b (rdA b s)).2 c2 hg.t c3
 rw [← c1] at t1
 obtain ⟨t1, t2, t3⟩ := t1
 rw [c1] at t1
 have tt : (rdTs b s).1 = et := by
  have h9 := rdTk_put b _ et [] (rdC b (rdA b s)).2 c2 hg.t c3
  show (rdTk b (rdC b (rdA b s)).1 _).1 = _
  rw [c1, h9.1]; rfl
 obtain ⟨d1, d2, d3⟩ := rd_cnt (s := (rdTs b s).2) t2 t3 hu
 have u1 := rdUs_put b t eu [] (rdC b (rdTs b s).2).2 d2 hg.u d3
 have uu : (rdUu b s).1 = eu := by
  show (rdUs b (rdC b (rdTs b s).2).1 _).1 = _
  rw [d1, u1.1]; rfl
 refine ⟨?_, ?_, ?_⟩
 ·
  show En.mk (rdV [] sD b s).1 (unz (rdV 0 uD b (rdV [] sD b s).2).1) (rdTs b s).1 (rdUu b s).1 = _
  rw [a1, b1, tt, uu, unz_two]
  congr 1
  omega
 ·
  show (rdUs b (rdC b (rdTs b s).2).1 _).2.err = 0
  rw [d1]; exact u1.2.1
 ·
  show b.drop (rdUs b (rdC b (rdTs b s).2).1 _).2.off = t
  rw [d1]; exact u1.2.2
theorem rdRecs_put (b t : List UInt8) : ∀ (l acc : List En) (s : Rd), s.err = 0 → (∀ e ∈ l, GoodE e ∧ e.tk.length ≤ 4096 ∧ e.us.length ≤ 4096) → b.drop s.off = l.flatMap encR ++ t → (rdRecs b l.length (acc, s)).1 = acc ++ l ∧ (rdRecs b l.length (acc, s)).2.err = 0 ∧ b.drop (rdRecs b l.length (acc, s)).2.off = t
 | [], acc, s, h0, _, h => ⟨by rw [List.append_nil]; rfl, h0, h⟩
 | y :: l, acc, s, h0, hl, h => by
  have hy := hl y (List.mem_cons_self ..)
  have h' : b.drop s.off = encR y ++ (l.flatMap encR ++ t) := by rw [h, List.flatMap_cons, List.append_assoc]
  obtain ⟨a1, a2, a3⟩ := rdRec_put h0 hy.1 hy.2.1 hy.2.2 h'
  have ih := rdRecs_put b t l (acc ++ [y]) (rdRec b s).2 a2 (fun z hz => hl z (List.mem_cons_of_mem _ hz)) a3
  rw [List.length_cons, rdRecs]
  show (rdRecs b l.length (acc ++ [(rdRec b s).1], _)).1 = _ ∧ _
  rw [a1]
  exact ⟨by rw [ih.1, List.append_assoc]; rfl, ih.2.1, ih.2.2⟩
theorem sizeE_mem {l : List En} {e : En} (he : e ∈ l) : e.tk.length + e.us.length ≤ sizeE l := by
 unfold sizeE
 induction l with
 | nil => cases he
 | cons a l ih =>
  rw [List.map_cons, List.sum_cons]
  rcases List.mem_cons.1 he with rfl | he
  ·
   omega
  ·
   have := ih he; omega
/-- A valid purse's encoding is decoded. -/
theorem dec_enc {l : List En} (hv : validE none l = true) (hs : sizeE l ≤ 4096) (hg : ∀ e ∈ l, GoodE e) (hn : l.length ≤ 4096) : (rdAll (encE l)).1 = l ∧ decP (encE l) = 0 := by
 have c0 := rd_cnt (b := encE l) (s := ⟨0, 0, 0⟩) (t := l.flatMap encR) rfl (by rw [List.drop_zero]; rfl) hn
 have r0 := rdRecs_put (encE l) [] l [] (rdC (encE l) ⟨0, 0, 0⟩).2 c0.2.1 (fun e he => ⟨hg e he, by have := sizeE_mem he; omega, by have := sizeE_mem he; omega⟩) (by rw [List.append_nil]; exact c0.2.2)
 have e1 : rdAll (encE l) = rdRecs (encE l) l.length ([], (rdC (encE l) ⟨0, 0, 0⟩).2) := by unfold rdAll; rw [c0.1]
 rw [← e1] at r0
 have h1 : (rdAll (encE l)).1 = l := r0.1
 have h2 : endR (encE l).length (rdAll (encE l)).2 = 0 := by
  unfold endR
  rw [if_pos r0.2.1, if_neg]
  have := List.drop_eq_nil_iff.1 r0.2.2
  omega
 refine ⟨h1, ?_⟩
 unfold decP
 rw [if_pos h2, h1, if_pos ⟨hv, hs⟩]
end Go.Proofs.YtheijpjfpaghfaaGreatDoor
/- The reference's Size of a purse that is not under construction. -/
namespace Go.Proofs.YtheijpjfpaghfaaGreatDoor
open Go Go.RowKit Gf Sha

set_option maxRecDepth 100000 in
set_option maxHeartbeats 2000000 in
theorem rsizep_any (w : World) (v : Value) (rs : List Se) (h : RLp w v rs) (hn : rs.length ≤ 100000) :
  Calls Tryz.prog 52 #[v] w fun e w' => e = .returned (.int .i64 (sizeE (rs.map (·.e)) : Int)) ∧ Below w.heap.size w w' := by
 obtain ⟨A, c, rfl, _⟩ := h.row.form
 have HB : Hid (∀ k, k ≤ rs.length → sizeE ((rs.take k).map (·.e)) ≤ 20000000000) := Lib.hid (fun k hk => by
  refine Nat.le_trans (sizeE_take (fun e he => ?_)) ?_
  ·
   obtain ⟨x, hx, rfl⟩ := List.mem_map.1 he
   have := h.ok x (List.mem_of_mem_take hx)
   exact ⟨this.bt, this.bu⟩
  ·
   rw [List.length_map, List.length_take]; omega)
 have H := Lib.hid h
 obtain ⟨n, hn2⟩ : ∃ n, n = rs.length := ⟨_, rfl⟩
 rw [← hn2] at hn ⊢
 have HN := Lib.hid hn2
 clear h hn2
 go_enter Tryz.func52, Tryz.ntmps52
 go_wp2_with fail
 go_loopw [3, 8] (fun sv iv wr => ∃ (k z : Nat), k ≤ n ∧ iv = .int .i64 (k : Int) ∧ sv = .int .i64 (z : Int) ∧ z ≤ 20000000000 ∧ Hid (sizeE ((rs.take k).map (·.e)) = z) ∧ Hid (Below w.heap.size w wr)) (fun _ iv _ => n - (intOf iv).toNat)
 case atStart => exact ⟨0, 0, by omega, rfl, rfl, by omega, Lib.hid rfl, Lib.hid (Below.refl _ _)⟩
 case round =>
  obtain ⟨k, z, hk, rfl, rfl, hz, hsz, hb⟩ := hrel
  obtain ⟨wx, hwx⟩ : ∃ x, x = wr := ⟨_, rfl⟩
  rw [← hwx] at hb ⊢
  clear hwx
  by_cases hlt : k < n
  ·
   have hkl : k < rs.length := by rw [← HN.out]; exact hlt
   obtain ⟨g, o, c', e, _, hat⟩ := H.out.row.at_ (by rw [← HN.out]; omega)
   cases e
   obtain ⟨x, hx⟩ : ∃ p, p = rs[k] := ⟨_, rfl⟩
   have HTA := Lib.hid ((At.elem (f := seC) seC_length hat hkl).kept hb.out)
   rw [← hx] at HTA
   have hsx := H.out.ok x (by rw [hx]; exact List.getElem_mem hkl)
   have HTK : Hid (sizeE ((rs.take (k + 1)).map (·.e)) = z + (x.e.tk.length + x.e.us.length)) := Lib.hid (by
    rw [List.take_succ_eq_append_getElem hkl, List.map_append, sizeE_app, hsz.out, hx]; simp [sizeE])
   have HZB : Hid (z + (x.e.tk.length + x.e.us.length) ≤ 20000000000) := Lib.hid (by rw [← HTK.out]; exact HB.out _ (by omega))
   have HSX := Lib.hid hsx
   clear hat hx hsx
   obtain ⟨⟨s, i, tk, us⟩, tv, uv⟩ := x
   obtain ⟨A1, c1, e1, _⟩ := HSX.out.t.form
   obtain ⟨A2, c2, e2, _⟩ := HSX.out.u.form
   replace e1 : tv = .slice A1 tk.length c1 := e1
   replace e2 : uv = .slice A2 us.length c2 := e2
   subst e1 e2
   obtain ⟨p, hp⟩ : ∃ p, p = tk.length := ⟨_, rfl⟩
   obtain ⟨q, hq⟩ : ∃ p, p = us.length := ⟨_, rfl⟩
   have HTA : Hid (At wx g (o + k * 4) [.string (strB s), .int .i64 i, .slice A1 p c1, .slice A2 q c2]) := Lib.hid (by rw [hp, hq]; exact HTA.out)
   have HTK : Hid (sizeE ((rs.take (k + 1)).map (·.e)) = z + (p + q)) := Lib.hid (by rw [hp, hq]; exact HTK.out)
   have hzb : z + (p + q) ≤ 20000000000 := by rw [hp, hq]; exact HZB.out
   clear hp hq HZB HSX
   go_wp2_with (first
    | ((with_reducible show OpW 11); refine wpList_loadv _ rfl 54 (.tmp 10) rfl 4 (by kernel_rfl) g (o + k * 4) _ (by go_simp) HTA.out rfl ?_)
    | ((with_reducible show OpW 5); refine wpList_alloc _ rfl 54 rfl reZ reZeroF ?_; intro w2 a1 a2 a3; have HV2 := Lib.hid a1; have HX2 := Lib.hid a2; clear a1 a2 a3)
    | ((with_reducible show OpN); refine wpList_storev _ rfl 54 (.tmp 5) (.tmp 11) rfl 4 (by kernel_rfl) wx.heap.size 0 _ reZ [.string (strB s), .int .i64 i, .slice A1 p c1, .slice A2 q c2] rfl rfl HV2.out rfl (one_val _ rfl) (by decide) ?_; intro w3 a1 a2 a3; have q2 : w3.cell? ⟨wx.heap.size, 2, none⟩ = some (.slice A1 p c1) := BL.get (l := [.string (strB s), .int .i64 i, .slice A1 p c1, .slice A2 q c2]) a1 (j := 2) rfl; have q3 : w3.cell? ⟨wx.heap.size, 3, none⟩ = some (.slice A2 q c2) := BL.get (l := [.string (strB s), .int .i64 i, .slice A1 p c1, .slice A2 q c2]) a1 (j := 3) rfl; have HX3 : Hid (Below wx.heap.size wx w3) := Lib.hid (low_own HX2.out a2 (fun i hi e => by omega)); clear a1 a2 a3))
   go_roundw
   case rel => exact ⟨k + 1, z + (p + q), by omega, by go_num, by go_num, hzb, HTK, Lib.hid (below_thenB hb.out hb.out.size HX3.out)⟩
   case measure => simp [intOf]; omega
  ·
   obtain rfl : k = n := by omega
   have HE : Hid (sizeE (rs.map (·.e)) = z) := Lib.hid (by
    have h9 := hsz.out
    rw [HN.out, List.take_length] at h9
    exact h9)
   go_wp2_with fail
   go_ret
   exact ⟨by rw [HE.out]; rfl, hb.out⟩
end Go.Proofs.YtheijpjfpaghfaaGreatDoor
/- Plain: what Add, Use, Drop make of lists of entries; what stays true of them. -/
namespace Go.Proofs.YtheijpjfpaghfaaGreatDoor
open Go Gf Sha

/-- A token with its piece. -/
abbrev PT := Pid × Sc
def tkE (e : En) (x : Sc) : En := ⟨e.s, e.i, e.tk ++ [x], e.us⟩
def nonE (e : En) : List (List UInt8) := e.us ++ e.tk.map (·.1)
def add1 (l : List En) (t : PT) : List En := putE l (tkE (ofE l t.1) t.2)
def addE (l : List En) (xs : List PT) : List En := xs.foldl add1 l
def dupB : List En → List PT → Bool
 | _, [] => false
 | l, t :: r => decide (t.2.1 ∈ nonE (ofE l t.1)) || dupB (add1 l t) r
def vtA (xs : List PT) : Bool := xs.all fun t => vtkB t.1.1 t.1.2 t.2
/-- The error of Add. -/
def adX (l : List En) (xs : List PT) : Int := if vtA xs = true then (if dupB l xs = true then 5 else if 4096 < sizeE (addE l xs) then 7 else 0) else 1

theorem noId_no {p : Pid} {l : List En} {e : En} (h : e ∈ noId p l) : e ∈ l ∧ idE e ≠ p := by
 have h9 := List.mem_filter.1 h
 exact ⟨h9.1, by simpa using h9.2⟩
theorem ofE_cons {e : En} {p : Pid} (he : idE e = p) (l : List En) (q : Pid) : ofE (e :: noId p l) q = if q = p then e else ofE l q := by
 unfold ofE
 rw [List.find?_cons, he]
 by_cases h : q = p
 ·
  subst h
  simp
 ·
  rw [if_neg h, show (p == q) = false by rw [beq_eq_false_iff_ne]; exact fun e => h e.symm]
  show ((noId p l).find? _).getD _ = _
  rw [noId, List.find?_filter]
  congr 1
  congr 1
  funext a
  by_cases h2 : idE a = q
  ·
   simp [h2, h]
  ·
   simp [h2]
theorem cons_nodup {e : En} {p : Pid} {l : List En} (he : idE e = p) (h : (l.map idE).Nodup) : ((e :: noId p l).map idE).Nodup := by
 rw [List.map_cons, List.nodup_cons]
 refine ⟨fun h9 => ?_, h.sublist (List.Sublist.map _ List.filter_sublist)⟩
 obtain ⟨a, ha, e9⟩ := List.mem_map.1 h9
 exact (noId_no ha).2 (e9.trans he)
theorem add1_perm (l : List En) (t : PT) : (add1 l t).Perm (tkE (ofE l t.1) t.2 :: noId t.1 l) := by
 have h := putE_perm (l := l) (e := tkE (ofE l t.1) t.2) (by simp [tkE])
 rw [show idE (tkE (ofE l t.1) t.2) = t.1 from ofE_id l t.1] at h
 exact h
theorem nodup_perm {l m : List En} (hp : l.Perm m) (h : (l.map idE).Nodup) : (m.map idE).Nodup := (hp.map idE).nodup_iff.1 h
theorem add1_nodup {l : List En} (t : PT) (h : (l.map idE).Nodup) : ((add1 l t).map idE).Nodup :=
 nodup_perm (add1_perm l t).symm (cons_nodup (ofE_id l t.1) h)
theorem ofE_add1 {l : List En} (t : PT) (h : (l.map idE).Nodup) (q : Pid) : ofE (add1 l t) q = if q = t.1 then tkE (ofE l t.1) t.2 else ofE l q := by
 rw [ofE_perm (add1_perm l t) (add1_nodup t h), ofE_cons (show idE (tkE (ofE l t.1) t.2) = t.1 from ofE_id l t.1)]
theorem split_perm {l : List En} (h : (l.map idE).Nodup) {e : En} (he : e ∈ l) : l.Perm (e :: noId (idE e) l) := by
 induction l with
 | nil => cases he
 | cons a l ih =>
  rw [List.map_cons, List.nodup_cons] at h
  by_cases hae : a = e
  ·
   subst hae
   have h2 : noId (idE a) (a :: l) = l := by
    rw [noId, List.filter_cons, if_neg (by simp), List.filter_eq_self.2]
    intro b hb
    rw [bne_iff_ne]
    exact fun e9 => h.1 (e9 ▸ List.mem_map.2 ⟨b, hb, rfl⟩)
   rw [h2]
  ·
   have hel : e ∈ l := (List.mem_cons.1 he).resolve_left (fun h => hae h.symm)
   have h2 : noId (idE e) (a :: l) = a :: noId (idE e) l := by
    rw [noId, List.filter_cons, if_pos]
    ·
     rfl
    ·
     rw [bne_iff_ne]
     exact fun e9 => h.1 (e9 ▸ List.mem_map.2 ⟨e, hel, rfl⟩)
   rw [h2]
   exact ((ih h.2 hel).cons a).trans (List.Perm.swap _ _ _)
theorem noId_out {l : List En} {p : Pid} (h : ∀ e ∈ l, idE e ≠ p) : noId p l = l := by
 rw [noId, List.filter_eq_self.2]
 intro b hb
 rw [bne_iff_ne]
 exact h b hb
theorem sizeE_perm {l m : List En} (h : l.Perm m) : sizeE l = sizeE m := (h.map _).sum_nat
theorem sizeE_cons (e : En) (l : List En) : sizeE (e :: l) = e.tk.length + e.us.length + sizeE l := rfl
theorem size_split {l : List En} (h : (l.map idE).Nodup) (p : Pid) : sizeE l = (ofE l p).tk.length + (ofE l p).us.length + sizeE (noId p l) := by
 by_cases hx : ∃ e ∈ l, idE e = p
 ·
  obtain ⟨e, he, rfl⟩ := hx
  rw [ofE_in h he, sizeE_perm (split_perm h he), sizeE_cons]
 ·
  have hx' : ∀ e ∈ l, idE e ≠ p := fun e he e9 => hx ⟨e, he, e9⟩
  rw [ofE_out hx', noId_out hx']
  simp
theorem sizeE_add1 {l : List En} (t : PT) (h : (l.map idE).Nodup) : sizeE (add1 l t) = sizeE l + 1 := by
 rw [sizeE_perm (add1_perm l t), sizeE_cons, size_split h t.1]
 simp only [tkE, List.length_append, List.length_singleton]
 omega
theorem addE_nodup : ∀ (xs : List PT) {l : List En}, (l.map idE).Nodup → ((addE l xs).map idE).Nodup
 | [], _, h => h
 | t :: r, _, h => addE_nodup r (add1_nodup t h)
theorem sizeE_addE : ∀ (xs : List PT) {l : List En}, (l.map idE).Nodup → sizeE (addE l xs) = sizeE l + xs.length
 | [], _, _ => rfl
 | t :: r, l, h => by
  show sizeE (addE (add1 l t) r) = _
  rw [sizeE_addE r (add1_nodup t h), sizeE_add1 t h, List.length_cons]
  omega
theorem noId_perm {l m : List En} (h : l.Perm m) (p : Pid) : (noId p l).Perm (noId p m) := h.filter _
theorem add1_cong {l m : List En} (t : PT) (h : l.Perm m) (hn : (l.map idE).Nodup) : (add1 l t).Perm (add1 m t) := by
 refine (add1_perm l t).trans (List.Perm.trans ?_ (add1_perm m t).symm)
 rw [ofE_perm h hn]
 exact (noId_perm h _).cons _
theorem addE_cong : ∀ (xs : List PT) {l m : List En}, l.Perm m → (l.map idE).Nodup → (addE l xs).Perm (addE m xs)
 | [], _, _, h, _ => h
 | t :: r, _, _, h, hn => addE_cong r (add1_cong t h hn) (add1_nodup t hn)
theorem dupB_cong : ∀ (xs : List PT) {l m : List En}, l.Perm m → (l.map idE).Nodup → dupB l xs = dupB m xs
 | [], _, _, _, _ => rfl
 | t :: r, l, m, h, hn => by
  rw [dupB, dupB, ofE_perm h hn, dupB_cong r (add1_cong t h hn) (add1_nodup t hn)]
theorem adX_cong (xs : List PT) {l m : List En} (h : l.Perm m) (hn : (l.map idE).Nodup) : adX l xs = adX m xs := by
 rw [adX, adX, dupB_cong xs h hn, sizeE_perm (addE_cong xs h hn)]
theorem asc_nodup {l : List En} (h : AscE l) : (l.map idE).Nodup :=
 List.Pairwise.imp (fun {a b} h e => by rw [e, ltI_irr] at h; cases h) h
theorem addE_app (l : List En) (xs : List PT) (t : PT) : addE l (xs ++ [t]) = add1 (addE l xs) t := by
 rw [addE, List.foldl_append]; rfl
theorem add1_len (l : List En) (t : PT) : (add1 l t).length ≤ l.length + 1 := by
 rw [(add1_perm l t).length_eq, List.length_cons]
 have := List.length_filter_le (fun y => idE y != t.1) l
 unfold noId
 omega
theorem addE_len : ∀ (xs : List PT) (l : List En), (addE l xs).length ≤ l.length + xs.length
 | [], _ => Nat.le_refl _
 | t :: r, l => by
  have h1 := addE_len r (add1 l t)
  have h2 := add1_len l t
  rw [List.length_cons]
  show (addE (add1 l t) r).length ≤ _
  omega
theorem ofE_size {l : List En} (h : (l.map idE).Nodup) (p : Pid) : (ofE l p).tk.length + (ofE l p).us.length ≤ sizeE l := by
 have := size_split h p
 omega
theorem addE_take {l : List En} {xs : List PT} {k : Nat} (hk : k < xs.length) : addE l (xs.take (k + 1)) = add1 (addE l (xs.take k)) xs[k] := by
 rw [List.take_succ_eq_append_getElem hk, addE_app]
theorem ofE_form (l : List En) (p : Pid) : ∃ tk us, ofE l p = ⟨p.1, p.2, tk, us⟩ := by
 have h := ofE_id l p
 revert h
 generalize ofE l p = e
 intro h
 obtain ⟨s, i, tk, us⟩ := e
 subst h
 exact ⟨tk, us, rfl⟩
/-- What is true of a purse's entries. -/
structure PInv (l : List En) : Prop where
 asc : AscE l
 ok : ∀ e ∈ l, okE e = true
 gd : ∀ e ∈ l, GoodE e
 sz : sizeE l ≤ 4096
theorem PInv.nil : PInv [] := ⟨by simp [AscE], fun _ h => (by cases h), fun _ h => (by cases h), by decide⟩
theorem PInv.nodup {l : List En} (h : PInv l) : (l.map idE).Nodup := asc_nodup h.asc
theorem validE_of : ∀ (l : List En) (p : Option Pid), (∀ e ∈ l, okE e = true) → AscE l → (∀ q, p = some q → ∀ a ∈ l.map idE, ltI q a = true) → validE p l = true
 | [], _, _, _, _ => rfl
 | e :: l, p, h1, h2, h3 => by
  unfold AscE at h2
  rw [List.map_cons, List.pairwise_cons] at h2
  have h4 := validE_of l (some (idE e)) (fun a ha => h1 a (List.mem_cons_of_mem _ ha)) h2.2 (fun q hq a ha => by injection hq with hq; rw [← hq]; exact h2.1 a ha)
  rw [validE, h1 e (List.mem_cons_self ..), h4]
  cases p with
  | none => rfl
  | some q => rw [show ascE (some q) (idE e) = ltI q (idE e) from rfl, h3 q rfl (idE e) (List.mem_map.2 ⟨e, List.mem_cons_self .., rfl⟩)]; rfl
theorem PInv.valid {l : List En} (h : PInv l) : validE none l = true := validE_of l none h.ok h.asc (fun _ h => by cases h)
theorem len_size : ∀ {l : List En}, (∀ e ∈ l, okE e = true) → l.length ≤ sizeE l
 | [], _ => Nat.le_refl _
 | e :: l, h => by
  have h1 := len_size (l := l) (fun a ha => h a (List.mem_cons_of_mem _ ha))
  have h2 := h e (List.mem_cons_self ..)
  simp only [okE, Bool.and_eq_true, decide_eq_true_eq] at h2
  rw [sizeE_cons, List.length_cons]
  omega
theorem PInv.len {l : List En} (h : PInv l) : l.length ≤ 4096 := Nat.le_trans (len_size h.ok) h.sz
theorem PInv.none_of {l : List En} (h : PInv l) (p : Pid) : (nonE (ofE l p)).Nodup ∧ (∀ x ∈ (ofE l p).tk, x.1.length = 32 ∧ x.2.length = 32) ∧ (∀ x ∈ (ofE l p).us, x.length = 32) := by
 by_cases hx : ∃ e ∈ l, idE e = p
 ·
  obtain ⟨e, he, rfl⟩ := hx
  rw [ofE_in h.nodup he]
  have h2 := h.ok e he
  simp only [okE, Bool.and_eq_true, decide_eq_true_eq] at h2
  exact ⟨h2.2.2, (h.gd e he).t, (h.gd e he).u⟩
 ·
  rw [ofE_out (fun e he e9 => hx ⟨e, he, e9⟩)]
  exact ⟨List.nodup_nil, fun _ h => (by cases h), fun _ h => (by cases h)⟩
/-- An entry is put in place of that of its piece. -/
theorem PInv.put {l : List En} (h : PInv l) {e : En} (h1 : okE e = true) (h2 : GoodE e) (h3 : sizeE (putE l e) ≤ 4096) : PInv (putE l e) := by
 have h0 : e.tk.length + e.us.length ≠ 0 := by
  simp only [okE, Bool.and_eq_true, decide_eq_true_eq] at h1
  exact h1.2.1
 have hp := putE_perm (l := l) h0
 refine ⟨putE_asc e h.asc, fun a ha => ?_, fun a ha => ?_, h3⟩
 ·
  rcases List.mem_cons.1 (hp.subset ha) with rfl | h9
  ·
   exact h1
  ·
   exact h.ok a (noId_no h9).1
 ·
  rcases List.mem_cons.1 (hp.subset ha) with rfl | h9
  ·
   exact h2
  ·
   exact h.gd a (noId_no h9).1
theorem PInv.drop {l : List En} (h : PInv l) (p : Pid) : PInv (noId p l) :=
 ⟨noId_asc p h.asc, fun a ha => h.ok a (noId_no ha).1, fun a ha => h.gd a (noId_no ha).1, by have := size_split h.nodup p; have := h.sz; omega⟩
theorem idB_good {s : List UInt8} {i : Int} (h : idB s i = true) : s.length = 32 ∧ 0 ≤ i ∧ i < 16 := by
 simp only [idB, Bool.and_eq_true, decide_eq_true_eq] at h
 exact ⟨by omega, by omega, by omega⟩
theorem PInv.add1 {l : List En} (h : PInv l) {t : PT} (hv : vtkB t.1.1 t.1.2 t.2 = true) (hd : t.2.1 ∉ nonE (ofE l t.1)) (hs : sizeE l < 4096) : PInv (add1 l t) := by
 have hid : idE (ofE l t.1) = t.1 := ofE_id l t.1
 have e1 : (ofE l t.1).s = t.1.1 := congrArg Prod.fst hid
 have e2 : (ofE l t.1).i = t.1.2 := congrArg Prod.snd hid
 obtain ⟨n1, n2, n3⟩ := h.none_of t.1
 simp only [vtkB, Bool.and_eq_true, decide_eq_true_eq] at hv
 refine h.put ?_ ?_ (by have := sizeE_add1 t h.nodup; unfold Go.Proofs.YtheijpjfpaghfaaGreatDoor.add1 at this; omega)
 ·
  simp only [okE, tkE, e1, e2, hv.1, Bool.true_and, Bool.and_eq_true, decide_eq_true_eq, List.length_append, List.length_singleton, List.map_append, List.map_cons, List.map_nil]
  refine ⟨by omega, ?_⟩
  rw [← List.append_assoc, List.nodup_append]
  exact ⟨n1, by simp, fun a ha b hb e => hd (by rw [List.mem_singleton.1 hb] at e; rw [← e]; exact ha)⟩
 ·
  have hg := idB_good hv.1
  refine ⟨by show (ofE l t.1).s.length = 32; rw [e1]; exact hg.1, by show 0 ≤ (ofE l t.1).i; rw [e2]; exact hg.2.1, by show (ofE l t.1).i < 16; rw [e2]; exact hg.2.2, fun x hx => ?_, n3⟩
  rcases List.mem_append.1 hx with h9 | h9
  ·
   exact n2 x h9
  ·
   rw [List.mem_singleton.1 h9]; exact ⟨hv.2.1, hv.2.2⟩
theorem PInv.addE : ∀ (xs : List PT) {l : List En}, PInv l → vtA xs = true → dupB l xs = false → sizeE l + xs.length ≤ 4096 → PInv (addE l xs)
 | [], _, h, _, _, _ => h
 | t :: r, l, h, hv, hd, hs => by
  simp only [vtA, List.all_cons, Bool.and_eq_true] at hv
  rw [dupB, Bool.or_eq_false_iff, decide_eq_false_iff_not] at hd
  rw [List.length_cons] at hs
  exact PInv.addE r (h.add1 hv.1 hd.1 (by omega)) hv.2 hd.2 (by rw [sizeE_add1 t h.nodup]; omega)
/-- Add's result keeps it. -/
theorem PInv.adX {l : List En} {xs : List PT} (h : PInv l) (h0 : adX l xs = 0) : PInv (Go.Proofs.YtheijpjfpaghfaaGreatDoor.addE l xs) := by
 unfold Go.Proofs.YtheijpjfpaghfaaGreatDoor.adX at h0
 split at h0
 ·
  rename_i hv
  split at h0
  ·
   cases h0
  ·
   rename_i hd
   split at h0
   ·
    cases h0
   ·
    rename_i hs
    exact PInv.addE xs h hv (by simpa using hd) (by rw [sizeE_addE xs h.nodup] at hs; omega)
 ·
  cases h0
/-- Use keeps it. -/
theorem PInv.use {l : List En} (h : PInv l) {s : List UInt8} {i : Int} {y : Sc} {tk : List Sc} {us : List (List UInt8)} (he : ofE l (s, i) = ⟨s, i, y :: tk, us⟩) : PInv (putE l ⟨s, i, tk, us ++ [y.1]⟩) := by
 obtain ⟨n1, n2, n3⟩ := h.none_of (s, i)
 have hm : ∃ e ∈ l, idE e = (s, i) := by
  refine Classical.byContradiction fun hx => ?_
  rw [ofE_out (fun e he e9 => hx ⟨e, he, e9⟩)] at he
  injection he with _ _ he _
  cases he
 obtain ⟨e, hel, hid⟩ := hm
 have he2 : e = ⟨s, i, y :: tk, us⟩ := by rw [← he, ← hid, ofE_in h.nodup hel]
 have hok := h.ok e hel
 have hgd := h.gd e hel
 rw [he2] at hok hgd
 rw [he] at n1 n2 n3
 refine h.put ?_ ⟨hgd.s, hgd.i0, hgd.i1, fun x hx => n2 x (List.mem_cons_of_mem _ hx), fun x hx => ?_⟩ ?_
 ·
  simp only [okE, Bool.and_eq_true, decide_eq_true_eq] at hok ⊢
  refine ⟨hok.1, by rw [List.length_append, List.length_singleton]; omega, ?_⟩
  have h9 := hok.2.2
  rw [List.map_cons] at h9
  rw [List.append_assoc]
  exact h9
 ·
  rcases List.mem_append.1 hx with h9 | h9
  ·
   exact n3 x h9
  ·
   rw [List.mem_singleton.1 h9]; exact (n2 y (List.mem_cons_self ..)).1
 ·
  have hp := putE_perm (l := l) (e := ⟨s, i, tk, us ++ [y.1]⟩) (by simp)
  rw [sizeE_perm hp, sizeE_cons]
  have h9 := size_split h.nodup (s, i)
  rw [he] at h9
  have := h.sz
  simp only [List.length_append, List.length_cons, List.length_nil] at h9 ⊢
  show tk.length + (us.length + (0 + 1)) + sizeE (noId (s, i) l) ≤ 4096
  omega
/-- A list of entries that is turned at one place. -/
theorem set_perm {l : List En} (h : (l.map idE).Nodup) {j : Nat} {e e' : En} (hj : l[j]? = some e) : (l.set j e').Perm (e' :: noId (idE e) l) := by
 induction l generalizing j with
 | nil => simp at hj
 | cons a l ih =>
  rw [List.map_cons, List.nodup_cons] at h
  cases j with
  | zero =>
   simp only [List.getElem?_cons_zero, Option.some.injEq] at hj
   subst hj
   rw [List.set_cons_zero]
   have h2 : noId (idE a) (a :: l) = l := by
    rw [noId, List.filter_cons, if_neg (by simp)]
    exact noId_out (l := l) (fun b hb e9 => h.1 (e9 ▸ List.mem_map.2 ⟨b, hb, rfl⟩))
   rw [h2]
  | succ j =>
   simp only [List.getElem?_cons_succ] at hj
   have hel : e ∈ l := List.mem_of_getElem? hj
   have h2 : noId (idE e) (a :: l) = a :: noId (idE e) l := by
    rw [noId, List.filter_cons, if_pos]
    ·
     rfl
    ·
     rw [bne_iff_ne]
     exact fun e9 => h.1 (e9 ▸ List.mem_map.2 ⟨e, hel, rfl⟩)
   rw [List.set_cons_succ, h2]
   exact ((ih h.2 hj).cons a).trans (List.Perm.swap _ _ _)
theorem encT_len : ∀ (tk : List Sc), (∀ x ∈ tk, x.1.length = 32 ∧ x.2.length = 32) → (encT tk).length = 64 * tk.length
 | [], _ => rfl
 | x :: tk, h => by
  have h1 := encT_len tk (fun y hy => h y (List.mem_cons_of_mem _ hy))
  have h2 := h x (List.mem_cons_self ..)
  rw [encT, List.flatMap_cons, List.length_append, List.length_append, h2.1, h2.2]
  unfold encT at h1
  rw [h1, List.length_cons]
  omega
theorem encU_len : ∀ (us : List (List UInt8)), (∀ x ∈ us, x.length = 32) → us.flatten.length = 32 * us.length
 | [], _ => rfl
 | x :: us, h => by
  rw [List.flatten_cons, List.length_append, h x (List.mem_cons_self ..), encU_len us (fun y hy => h y (List.mem_cons_of_mem _ hy)), List.length_cons]
  omega
theorem encL_len : ∀ (l : List En), (∀ e ∈ l, GoodE e) → (l.flatMap encR).length ≤ 65 * l.length + 64 * sizeE l
 | [], _ => Nat.le_refl _
 | e :: l, h => by
  have h1 := encL_len l (fun y hy => h y (List.mem_cons_of_mem _ hy))
  have hg := h e (List.mem_cons_self ..)
  have u1 := (uv_length (2 * e.i.toNat)).2
  have u2 := (uv_length e.tk.length).2
  have u3 := (uv_length e.us.length).2
  rw [List.flatMap_cons, List.length_append, sizeE_cons, List.length_cons, encR]
  simp only [List.length_append]
  rw [encT_len _ hg.t, encU_len _ hg.u, hg.s]
  omega
theorem PInv.enc {l : List En} (h : PInv l) : (encE l).length ≤ 1000000 := by
 have h1 := encL_len l h.gd
 have h2 := (uv_length l.length).2
 have h3 := h.len
 have h4 := h.sz
 rw [encE, List.length_append]
 omega
theorem itR_len (e : En) : (itR e).length = 4 + 2 * e.tk.length + e.us.length := by
 have h : ∀ tk : List Sc, (tk.flatMap (fun x => [It44.sm x.1, It44.sm x.2])).length = 2 * tk.length := by
  intro tk
  induction tk with
  | nil => rfl
  | cons x tk ih => rw [List.flatMap_cons, List.length_append, ih, List.length_cons, List.length_cons, List.length_cons, List.length_nil]; omega
 simp only [itR, List.length_cons, List.length_append, h, List.length_map]
 omega
theorem itL_len : ∀ l : List En, (l.flatMap itR).length ≤ 4 * l.length + 2 * sizeE l
 | [] => Nat.le_refl _
 | e :: l => by
  have h1 := itL_len l
  rw [List.flatMap_cons, List.length_append, itR_len, sizeE_cons, List.length_cons]
  omega
theorem PInv.its {l : List En} (h : PInv l) : (itL l).length ≤ 1000000 := by
 have h1 := itL_len l
 have h3 := h.len
 have h4 := h.sz
 rw [itL, List.length_cons]
 omega
end Go.Proofs.YtheijpjfpaghfaaGreatDoor
