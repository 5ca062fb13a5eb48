/- Several texts in one: Yb, Yc, Yd. -/
import Derived.Test.YtboglaokdgnpaaaB4
import Derived.Test.YtboglaokdgnpaaaB3
import Derived.Test.YtboglaokdgnpaaaB2
import Derived.Test.YtboglaokdgnpaaaA14
import Derived.Test.YtboglaokdgnpaaaA15
/- collector.After: its closures, its errors, a deletion. -/
namespace Go.Proofs.Ytboglaokdgnpaaa
open Go Go.RowKit Gf Sha

set_option maxRecDepth 100000 in
set_option maxHeartbeats 1000000 in
theorem after1_any (q : Pc) (s : Stp) (gs : Nat) (B0 : Option Addr) (p0 e0 : Nat) (B1 : Option Addr) (p1 e1 : Nat) (w : World) (h : BL w gs 44 (stC2 s B0 p0 e0 B1 p1 e1)) :
  Calls Try.prog 53 #[.agg (pcL q).toArray, .pointer (some ⟨gs, 0, none⟩)] w fun e w' => e = .returned (.bool (decide (q = s.pc))) ∧ Below w.heap.size w w' := by
 have H := Lib.hid h
 clear h
 have er : ∀ w, (Op.equalIn 10000 39 (.agg (pcL q).toArray) (.agg (pcL s.pc).toArray)).run Try.prog w = .ok (decide (q = s.pc)) w := fun w => eqIn_pc _ _ w
 obtain ⟨b, hb⟩ : ∃ b, decide (q = s.pc) = b := ⟨_, rfl⟩
 rw [hb] at er ⊢
 clear hb
 go_enter Try.func53, Try.ntmps53
 go_wp2_with (first
  | ((with_reducible show OpW 2); refine wpList_box _ rfl 39 (.tmp 0) rfl (pcL q) rfl ?_; intro w1 y1 y2 y3; have HB1 := Lib.hid y2; have HS1 := Lib.hid y1; clear y1 y2 y3)
  | ((with_reducible show OpW 4); refine wpList_loadv _ rfl 39 (.tmp 2) rfl 2 (by kernel_rfl) w.heap.size 0 (pcL q) rfl (BL.all HS1.out) rfl ?_)
  | ((with_reducible show OpW 6); refine wpList_loadv _ rfl 39 (.tmp 5) rfl 2 (by kernel_rfl) gs 2 (pcL s.pc) (by go_simp) (H.out.kept HB1.out).all.mid rfl ?_))
 go_ret
 exact ⟨rfl, HB1.out⟩
/-- A variable with a set of strings. -/
def CSet (gm m : Nat) (ids : List (List UInt8)) (w : World) : Prop := BL w gm 78 [.map (some m)] ∧ MG Try.prog 9 usC (.bool false) w m (fun z => .bool (hasB ids z))
theorem CSet.kept {gm m : Nat} {ids : List (List UInt8)} (w1 w2 : World) (h : CSet gm m ids w1) (hb : Below w1.heap.size w1 w2) : CSet gm m ids w2 := ⟨h.1.kept hb, h.2.kept hb⟩
theorem CSet.kp {gm m : Nat} {ids : List (List UInt8)} {t : TypeId} (ht : t ≠ 78) (w1 w2 : World) (g : Nat) (cs : List Value) (hb : BL w1 g t cs) (h : CSet gm m ids w1) (hk : Kp (· = g) w1 w2) : CSet gm m ids w2 :=
 ⟨hk.bl h.1 (fun e => by subst e; exact ht (hb.ty h.1)), h.2.kp hk (fun e => by subst e; exact h.2.no_cells hb)⟩
set_option maxRecDepth 100000 in
set_option maxHeartbeats 1000000 in
theorem after2_any (cs : List Value) (t : Sp) (gm m : Nat) (ids : List (List UInt8)) (w : World) (hc : rSp w cs t) (h : CSet gm m ids w) :
  Calls Try.prog 56 #[.agg cs.toArray, .pointer (some ⟨gm, 0, none⟩)] w fun e w' => e = .returned (.bool (hasB ids t.id)) ∧ Below w.heap.size w w' := by
 obtain ⟨A', m', c', rfl, _, hid, _⟩ := hc
 have H := Lib.hid h
 have HKS := Lib.hid (keyS t.id (reach_key hid))
 clear h hid
 obtain ⟨b, hb⟩ : ∃ b, hasB ids t.id = b := ⟨_, rfl⟩
 have HB := Lib.hid hb
 rw [hb]
 clear hb
 go_enter Try.func56, Try.ntmps56
 go_wp2_with (first
  | ((with_reducible show OpW 2); refine wpList_box _ rfl 61 (.tmp 0) rfl (spC t A' m' c') rfl ?_; intro w1 y1 y2 y3; have HB1 := Lib.hid y2; have q0 := y1.get (j := 0) rfl; have q1 := (H.out.1.kept y2).get (j := 0) rfl; have HG1 := Lib.hid (H.out.2.kept y2); clear y1 y2 y3)
  | ((with_reducible show OpW 7); refine wpList_lookGv _ rfl (.tmp 4) (.tmp 6) 78 9 4 rfl strKeyed mapSB (.bool false) boolZero m _ rfl HG1.out t.id rfl HKS.out (.bool b) (by rw [HB.out]) ?_))
 go_ret
 exact ⟨rfl, HB1.out⟩
set_option maxRecDepth 100000 in
set_option maxHeartbeats 1000000 in
theorem after3_any (x : List UInt8) (gm m : Nat) (ids : List (List UInt8)) (w : World) (hid : x.length ≤ reachBytes) (h : CSet gm m ids w) :
  Calls Try.prog 58 #[.string (strB x), .pointer (some ⟨gm, 0, none⟩)] w fun e w' => e = .returned (.bool (hasB ids x)) ∧ Below w.heap.size w w' := by
 have H := Lib.hid h
 have HKS := Lib.hid (keyS x (reach_key hid))
 have q1 := h.1.get (j := 0) rfl
 clear h hid
 obtain ⟨b, hb⟩ : ∃ b, hasB ids x = b := ⟨_, rfl⟩
 have HB := Lib.hid hb
 rw [hb]
 clear hb
 go_enter Try.func58, Try.ntmps58
 go_wp2_with (first
  | ((with_reducible show OpW 6); refine wpList_lookGv _ rfl (.tmp 4) (.tmp 5) 78 9 4 rfl strKeyed mapSB (.bool false) boolZero m _ rfl H.out.2 x rfl HKS.out (.bool b) (by rw [HB.out]) ?_))
 go_ret
 exact ⟨rfl, Below.refl _ _⟩
set_option maxRecDepth 100000 in
set_option maxHeartbeats 1000000 in
theorem after4_any (x : List UInt8) (gm m : Nat) (ids : List (List UInt8)) (w : World) (hid : x.length ≤ reachBytes) (h : CSet gm m ids w) :
  Calls Try.prog 59 #[.string (strB x), .pointer (some ⟨gm, 0, none⟩)] w fun e w' => e = .returned (.bool (hasB ids x)) ∧ Below w.heap.size w w' := by
 have H := Lib.hid h
 have HKS := Lib.hid (keyS x (reach_key hid))
 have q1 := h.1.get (j := 0) rfl
 clear h hid
 obtain ⟨b, hb⟩ : ∃ b, hasB ids x = b := ⟨_, rfl⟩
 have HB := Lib.hid hb
 rw [hb]
 clear hb
 go_enter Try.func59, Try.ntmps59
 go_wp2_with (first
  | ((with_reducible show OpW 6); refine wpList_lookGv _ rfl (.tmp 4) (.tmp 5) 78 9 4 rfl strKeyed mapSB (.bool false) boolZero m _ rfl H.out.2 x rfl HKS.out (.bool b) (by rw [HB.out]) ?_))
 go_ret
 exact ⟨rfl, Below.refl _ _⟩
theorem bldSi0 (w : World) : (Instr.build 33 #[]).run Try.prog w = .ok (.agg siZ.toArray) w := by kernel_rfl
theorem rSi_zeroE (w : World) : rSi w siZ siE := ⟨none, 0, 0, none, 0, 0, none, 0, 0, none, 0, 0, none, 0, 0, none, 0, 0, rfl, ⟨LS.nil, LS.nil, LS.nil, LS.nil, LS.nil, LS.nil, by rfl⟩⟩
set_option maxRecDepth 100000 in
set_option maxHeartbeats 2000000 in
theorem after_inv (a0 : Option Addr) (n0 c0 : Nat) (a1 : Option Addr) (n1 c1 : Nat) (a2 : Option Addr) (n2 c2 : Nat) (a3 : Option Addr) (n3 c3 : Nat) (a4 : Option Addr) (n4 c4 : Nat) (a5 : Option Addr) (n5 c5 : Nat) (x : Si) (w : World) (hq : SiOk w a0 n0 c0 a1 n1 c1 a2 n2 c2 a3 n3 c3 a4 n4 c4 a5 n5 c5 x) (hbig : x.sp.length ≤ 1000) (hv : siB x = false) (s : Stp) (cs : List Value) (hs : rStp w cs s) (B : Option Addr) (l d : Nat) :
  Calls Try.prog 18 #[.agg (siC a0 n0 c0 a1 n1 c1 a2 n2 c2 a3 n3 c3 a4 n4 c4 a5 n5 c5 x.pct).toArray, .agg cs.toArray, .slice B l d] w (AfterR siE 1 w) := by
 obtain ⟨B0, p0, e0, B1, p1, e1, rfl, _⟩ := hs
 have H := Lib.hid hq
 have HBG := Lib.hid hbig
 clear hq hbig
 go_enter Try.func18, Try.ntmps18
 go_wp2_with (first
  | ((with_reducible show OpW 3); refine wpList_box _ rfl 33 (.tmp 0) rfl (siC a0 n0 c0 a1 n1 c1 a2 n2 c2 a3 n3 c3 a4 n4 c4 a5 n5 c5 x.pct) rfl ?_; intro w1 y1 y2 y3; have HB1 := Lib.hid y2; have HS1 := Lib.hid y1; clear y1 y2 y3)
  | ((with_reducible show OpW 4); refine wpList_box _ rfl 44 (.tmp 1) rfl (stC2 s B0 p0 e0 B1 p1 e1) rfl ?_; intro w2 y1 y2 y3; have HT2 := Lib.hid y1; have HB2 := Lib.hid (below_then HB1.out y2); have HS2 := Lib.hid (HS1.out.kept y2); clear y1 y2 y3)
  | ((with_reducible show OpW 6); refine wpList_alloc _ rfl 33 rfl siZ siZero ?_; intro w3 y1 y2 y3; have HR3 := Lib.hid y1; have HB3 := Lib.hid (below_then HB2.out y2); have HS3 := Lib.hid (HS2.out.kept y2); have HT3 := Lib.hid (HT2.out.kept y2); have HG2 := Lib.hid HB2.out.size; clear y1 y2 y3)
  | ((with_reducible show OpW 13); refine wpList_loadv _ rfl 33 (.tmp 3) rfl 7 (by kernel_rfl) w.heap.size 0 _ rfl (BL.all HS3.out) rfl ?_)
  | (go_at_call 38; refine (read_any a0 n0 c0 a1 n1 c1 a2 n2 c2 a3 n3 c3 a4 n4 c4 a5 n5 c5 x _ (H.out.kept HB3.out) HBG.out).mono ?_; unfold ReadR; rw [hv]; (simp only [Bool.false_eq_true, if_false]); rintro e w4 ⟨rfl, bl4⟩; have HB4 := Lib.hid (below_thenB HB3.out HB3.out.size bl4); have HR4 := Lib.hid (HR3.out.kept bl4); clear bl4)
  | ((with_reducible show OpW 19); refine wpList_build _ rfl 33 #[] rfl #[] (by rfl) (.agg siZ.toArray) (bldSi0 _) ?_)
  | ((with_reducible show OpN); refine wpList_storev _ rfl 33 (.tmp 6) (.tmp 19) rfl 7 (by kernel_rfl) w2.heap.size 0 _ siZ siZ rfl rfl HR4.out rfl (one_val _ rfl) (by decide) ?_; intro wq y1 y2 y3; have HTq : Hid (BL wq w2.heap.size 33 siZ) := Lib.hid y1; have HKq := Lib.hid y2; clear y1 y2 y3)
  | fail)
 (try simp only [Exit.inBlock, Exit.then])
 exact bodyPost_ret (results_at2 wq Try.results18 (n := 7) (by kernel_rfl) (g := w2.heap.size) (o := 0) rfl (ms := siZ) (BL.all HTq.out) rfl) rfl ⟨_, rfl, rSi_zeroE _, ((Kp.of_below (S := fun _ => False) HB4.out).after HKq.out (fun i hi e => by have := HG2.out; omega)).below (Nat.le_refl _) (fun _ h => h.elim)⟩
set_option maxRecDepth 100000 in
set_option maxHeartbeats 4000000 in
theorem after_bad (a0 : Option Addr) (n0 c0 : Nat) (a1 : Option Addr) (n1 c1 : Nat) (a2 : Option Addr) (n2 c2 : Nat) (a3 : Option Addr) (n3 c3 : Nat) (a4 : Option Addr) (n4 c4 : Nat) (a5 : Option Addr) (n5 c5 : Nat) (x : Si) (w : World) (hq : SiOk w a0 n0 c0 a1 n1 c1 a2 n2 c2 a3 n3 c3 a4 n4 c4 a5 n5 c5 x) (hbig : x.sp.length ≤ 1000) (hv : siB x = true) (s : Stp) (cs : List Value) (hs : rStp w cs s) (B : Option Addr) (l d : Nat) (hk : (decide (s.kind < 1) || decide (4 < s.kind)) = true ∨ (decide (s.kind < 1) = false ∧ decide (4 < s.kind) = false ∧ (s.kind != 1) = true ∧ decide (0 < l) = true)) :
  Calls Try.prog 18 #[.agg (siC a0 n0 c0 a1 n1 c1 a2 n2 c2 a3 n3 c3 a4 n4 c4 a5 n5 c5 x.pct).toArray, .agg cs.toArray, .slice B l d] w (AfterR siE 1 w) := by
 obtain ⟨B0, p0, e0, B1, p1, e1, rfl, _⟩ := hs
 have H := Lib.hid hq
 have HBG := Lib.hid hbig
 clear hq hbig
 cases f1 : decide (s.kind < 1) with
 | true =>
  clear hk
  go_enter Try.func18, Try.ntmps18
  go_wp2_with (first
   | ((with_reducible show OpW 3); refine wpList_box _ rfl 33 (.tmp 0) rfl (siC a0 n0 c0 a1 n1 c1 a2 n2 c2 a3 n3 c3 a4 n4 c4 a5 n5 c5 x.pct) rfl ?_; intro w1 y1 y2 y3; have HB1 := Lib.hid y2; have HS1 := Lib.hid y1; clear y1 y2 y3)
   | ((with_reducible show OpW 4); refine wpList_box _ rfl 44 (.tmp 1) rfl (stC2 s B0 p0 e0 B1 p1 e1) rfl ?_; intro w2 y1 y2 y3; have HT2 := Lib.hid y1; have HB2 := Lib.hid (below_then HB1.out y2); have HS2 := Lib.hid (HS1.out.kept y2); clear y1 y2 y3)
   | ((with_reducible show OpW 6); refine wpList_alloc _ rfl 33 rfl siZ siZero ?_; intro w3 y1 y2 y3; have HR3 := Lib.hid y1; have HB3 := Lib.hid (below_then HB2.out y2); have HS3 := Lib.hid (HS2.out.kept y2); have HT3 := Lib.hid (HT2.out.kept y2); have HG2 := Lib.hid HB2.out.size; clear y1 y2 y3)
   | ((with_reducible show OpW 13); refine wpList_loadv _ rfl 33 (.tmp 3) rfl 7 (by kernel_rfl) w.heap.size 0 _ rfl (BL.all HS3.out) rfl ?_)
   | (go_at_call 38; refine (read_any a0 n0 c0 a1 n1 c1 a2 n2 c2 a3 n3 c3 a4 n4 c4 a5 n5 c5 x _ (H.out.kept HB3.out) HBG.out).mono ?_; unfold ReadR; rw [hv]; (simp only [if_true]); rintro e w4 ⟨gb, m0, m1, m2, m3, m4, m5, m6, m7, rfl, hst, bl4, h8, h9⟩; have HB4 := Lib.hid (below_thenB HB3.out HB3.out.size bl4); have HST := Lib.hid hst; have HS4 := Lib.hid (HS3.out.kept bl4); have HT4 := Lib.hid (HT3.out.kept bl4); have HR4 := Lib.hid (HR3.out.kept bl4); have t0 := (HT3.out.kept bl4).get (j := 0) rfl; clear hst bl4 h8 h9)
   | ((with_reducible show OpW 39); refine wpList_build _ rfl 33 #[] rfl #[] (by rfl) (.agg siZ.toArray) (bldSi0 _) ?_)
   | ((with_reducible show OpN); refine wpList_storev _ rfl 33 (.tmp 6) (.tmp 39) rfl 7 (by kernel_rfl) w2.heap.size 0 _ siZ siZ rfl rfl HR4.out rfl (one_val _ rfl) (by decide) ?_; intro wq y1 y2 y3; have HTq : Hid (BL wq w2.heap.size 33 siZ) := Lib.hid y1; have HKq := Lib.hid y2; clear y1 y2 y3)
   | fail)
  (try simp only [Exit.inBlock, Exit.then])
  exact bodyPost_ret (results_at2 wq Try.results18 (n := 7) (by kernel_rfl) (g := w2.heap.size) (o := 0) rfl (ms := siZ) (BL.all HTq.out) rfl) rfl ⟨_, rfl, rSi_zeroE _, ((Kp.of_below (S := fun _ => False) HB4.out).after HKq.out (fun i hi e => by have := HG2.out; omega)).below (Nat.le_refl _) (fun _ h => h.elim)⟩
 | false =>
  cases f2 : decide (4 < s.kind) with
  | true =>
   clear hk
   go_enter Try.func18, Try.ntmps18
   go_wp2_with (first
    | ((with_reducible show OpW 3); refine wpList_box _ rfl 33 (.tmp 0) rfl (siC a0 n0 c0 a1 n1 c1 a2 n2 c2 a3 n3 c3 a4 n4 c4 a5 n5 c5 x.pct) rfl ?_; intro w1 y1 y2 y3; have HB1 := Lib.hid y2; have HS1 := Lib.hid y1; clear y1 y2 y3)
    | ((with_reducible show OpW 4); refine wpList_box _ rfl 44 (.tmp 1) rfl (stC2 s B0 p0 e0 B1 p1 e1) rfl ?_; intro w2 y1 y2 y3; have HT2 := Lib.hid y1; have HB2 := Lib.hid (below_then HB1.out y2); have HS2 := Lib.hid (HS1.out.kept y2); clear y1 y2 y3)
    | ((with_reducible show OpW 6); refine wpList_alloc _ rfl 33 rfl siZ siZero ?_; intro w3 y1 y2 y3; have HR3 := Lib.hid y1; have HB3 := Lib.hid (below_then HB2.out y2); have HS3 := Lib.hid (HS2.out.kept y2); have HT3 := Lib.hid (HT2.out.kept y2); have HG2 := Lib.hid HB2.out.size; clear y1 y2 y3)
    | ((with_reducible show OpW 13); refine wpList_loadv _ rfl 33 (.tmp 3) rfl 7 (by kernel_rfl) w.heap.size 0 _ rfl (BL.all HS3.out) rfl ?_)
    | (go_at_call 38; refine (read_any a0 n0 c0 a1 n1 c1 a2 n2 c2 a3 n3 c3 a4 n4 c4 a5 n5 c5 x _ (H.out.kept HB3.out) HBG.out).mono ?_; unfold ReadR; rw [hv]; (simp only [if_true]); rintro e w4 ⟨gb, m0, m1, m2, m3, m4, m5, m6, m7, rfl, hst, bl4, h8, h9⟩; have HB4 := Lib.hid (below_thenB HB3.out HB3.out.size bl4); have HST := Lib.hid hst; have HS4 := Lib.hid (HS3.out.kept bl4); have HT4 := Lib.hid (HT3.out.kept bl4); have HR4 := Lib.hid (HR3.out.kept bl4); have t0 := (HT3.out.kept bl4).get (j := 0) rfl; clear hst bl4 h8 h9)
    | ((with_reducible show OpW 39); refine wpList_build _ rfl 33 #[] rfl #[] (by rfl) (.agg siZ.toArray) (bldSi0 _) ?_)
    | ((with_reducible show OpN); refine wpList_storev _ rfl 33 (.tmp 6) (.tmp 39) rfl 7 (by kernel_rfl) w2.heap.size 0 _ siZ siZ rfl rfl HR4.out rfl (one_val _ rfl) (by decide) ?_; intro wq y1 y2 y3; have HTq : Hid (BL wq w2.heap.size 33 siZ) := Lib.hid y1; have HKq := Lib.hid y2; clear y1 y2 y3)
    | fail)
   (try simp only [Exit.inBlock, Exit.then])
   exact bodyPost_ret (results_at2 wq Try.results18 (n := 7) (by kernel_rfl) (g := w2.heap.size) (o := 0) rfl (ms := siZ) (BL.all HTq.out) rfl) rfl ⟨_, rfl, rSi_zeroE _, ((Kp.of_below (S := fun _ => False) HB4.out).after HKq.out (fun i hi e => by have := HG2.out; omega)).below (Nat.le_refl _) (fun _ h => h.elim)⟩
  | false =>
   have f3 : (s.kind != 1) = true := by
    rcases hk with h | h
    ·
     rw [f1, f2] at h; cases h
    ·
     exact h.2.2.1
   have f7 : decide (0 < l) = true := by
    rcases hk with h | h
    ·
     rw [f1, f2] at h; cases h
    ·
     exact h.2.2.2
   clear hk
   go_enter Try.func18, Try.ntmps18
   go_wp2_with (first
    | ((with_reducible show OpW 3); refine wpList_box _ rfl 33 (.tmp 0) rfl (siC a0 n0 c0 a1 n1 c1 a2 n2 c2 a3 n3 c3 a4 n4 c4 a5 n5 c5 x.pct) rfl ?_; intro w1 y1 y2 y3; have HB1 := Lib.hid y2; have HS1 := Lib.hid y1; clear y1 y2 y3)
    | ((with_reducible show OpW 4); refine wpList_box _ rfl 44 (.tmp 1) rfl (stC2 s B0 p0 e0 B1 p1 e1) rfl ?_; intro w2 y1 y2 y3; have HT2 := Lib.hid y1; have HB2 := Lib.hid (below_then HB1.out y2); have HS2 := Lib.hid (HS1.out.kept y2); clear y1 y2 y3)
    | ((with_reducible show OpW 6); refine wpList_alloc _ rfl 33 rfl siZ siZero ?_; intro w3 y1 y2 y3; have HR3 := Lib.hid y1; have HB3 := Lib.hid (below_then HB2.out y2); have HS3 := Lib.hid (HS2.out.kept y2); have HT3 := Lib.hid (HT2.out.kept y2); have HG2 := Lib.hid HB2.out.size; clear y1 y2 y3)
    | ((with_reducible show OpW 13); refine wpList_loadv _ rfl 33 (.tmp 3) rfl 7 (by kernel_rfl) w.heap.size 0 _ rfl (BL.all HS3.out) rfl ?_)
    | (go_at_call 38; refine (read_any a0 n0 c0 a1 n1 c1 a2 n2 c2 a3 n3 c3 a4 n4 c4 a5 n5 c5 x _ (H.out.kept HB3.out) HBG.out).mono ?_; unfold ReadR; rw [hv]; (simp only [if_true]); rintro e w4 ⟨gb, m0, m1, m2, m3, m4, m5, m6, m7, rfl, hst, bl4, h8, h9⟩; have HB4 := Lib.hid (below_thenB HB3.out HB3.out.size bl4); have HST := Lib.hid hst; have HS4 := Lib.hid (HS3.out.kept bl4); have HT4 := Lib.hid (HT3.out.kept bl4); have HR4 := Lib.hid (HR3.out.kept bl4); have t0 := (HT3.out.kept bl4).get (j := 0) rfl; clear hst bl4 h8 h9)
    | ((with_reducible show OpW 39); refine wpList_build _ rfl 33 #[] rfl #[] (by rfl) (.agg siZ.toArray) (bldSi0 _) ?_)
    | ((with_reducible show OpN); refine wpList_storev _ rfl 33 (.tmp 6) (.tmp 39) rfl 7 (by kernel_rfl) w2.heap.size 0 _ siZ siZ rfl rfl HR4.out rfl (one_val _ rfl) (by decide) ?_; intro wq y1 y2 y3; have HTq : Hid (BL wq w2.heap.size 33 siZ) := Lib.hid y1; have HKq := Lib.hid y2; clear y1 y2 y3)
    | fail)
   (try simp only [Exit.inBlock, Exit.then])
   exact bodyPost_ret (results_at2 wq Try.results18 (n := 7) (by kernel_rfl) (g := w2.heap.size) (o := 0) rfl (ms := siZ) (BL.all HTq.out) rfl) rfl ⟨_, rfl, rSi_zeroE _, ((Kp.of_below (S := fun _ => False) HB4.out).after HKq.out (fun i hi e => by have := HG2.out; omega)).below (Nat.le_refl _) (fun _ h => h.elim)⟩
set_option maxRecDepth 100000 in
set_option maxHeartbeats 4000000 in
theorem after_err (a0 : Option Addr) (n0 c0 : Nat) (a1 : Option Addr) (n1 c1 : Nat) (a2 : Option Addr) (n2 c2 : Nat) (a3 : Option Addr) (n3 c3 : Nat) (a4 : Option Addr) (n4 c4 : Nat) (a5 : Option Addr) (n5 c5 : Nat) (x : Si) (w : World) (hq : SiOk w a0 n0 c0 a1 n1 c1 a2 n2 c2 a3 n3 c3 a4 n4 c4 a5 n5 c5 x) (hbig : x.sp.length ≤ 1000) (hv : siB x = true) (s : Stp) (cs : List Value) (hs : rStp w cs s) (B : Option Addr) (l d : Nat) (made : List Sp) (hm : LS rSp 6 72 w B l d made) (f1 : decide (s.kind < 1) = false) (f2 : decide (4 < s.kind) = false) (h3 : 0 < l → s.kind = 1) (hne : refE (st0 x) s made ≠ 0) :
  Calls Try.prog 18 #[.agg (siC a0 n0 c0 a1 n1 c1 a2 n2 c2 a3 n3 c3 a4 n4 c4 a5 n5 c5 x.pct).toArray, .agg cs.toArray, .slice B l d] w (AfterR siE (refE (st0 x) s made) w) := by
 have HSTP := Lib.hid hs
 obtain ⟨B0, p0, e0, B1, p1, e1, rfl, _⟩ := hs
 have H := Lib.hid hq
 have HBG := Lib.hid hbig
 have HM := Lib.hid hm
 obtain ⟨E, hE⟩ : ∃ E, refE (st0 x) s made = E := ⟨_, rfl⟩
 have HE := Lib.hid hE
 rw [hE] at hne ⊢
 have fE : (E != 0) = true := by simpa using hne
 clear hq hbig hm hE hne
 by_cases hl : 0 < l
 ·
  have f7 : decide (0 < l) = true := decide_eq_true hl
  have f3 : (s.kind != 1) = false := by rw [h3 hl]; rfl
  clear h3
  go_enter Try.func18, Try.ntmps18
  go_wp2_with (first
   | ((with_reducible show OpW 3); refine wpList_box _ rfl 33 (.tmp 0) rfl (siC a0 n0 c0 a1 n1 c1 a2 n2 c2 a3 n3 c3 a4 n4 c4 a5 n5 c5 x.pct) rfl ?_; intro w1 y1 y2 y3; have HB1 := Lib.hid y2; have HS1 := Lib.hid y1; clear y1 y2 y3)
   | ((with_reducible show OpW 4); refine wpList_box _ rfl 44 (.tmp 1) rfl (stC2 s B0 p0 e0 B1 p1 e1) rfl ?_; intro w2 y1 y2 y3; have HT2 := Lib.hid y1; have HB2 := Lib.hid (below_then HB1.out y2); have HS2 := Lib.hid (HS1.out.kept y2); clear y1 y2 y3)
   | ((with_reducible show OpW 6); refine wpList_alloc _ rfl 33 rfl siZ siZero ?_; intro w3 y1 y2 y3; have HR3 := Lib.hid y1; have HB3 := Lib.hid (below_then HB2.out y2); have HS3 := Lib.hid (HS2.out.kept y2); have HT3 := Lib.hid (HT2.out.kept y2); have HG2 := Lib.hid HB2.out.size; clear y1 y2 y3)
   | ((with_reducible show OpW 13); refine wpList_loadv _ rfl 33 (.tmp 3) rfl 7 (by kernel_rfl) w.heap.size 0 _ rfl (BL.all HS3.out) rfl ?_)
   | (go_at_call 38; refine (read_any a0 n0 c0 a1 n1 c1 a2 n2 c2 a3 n3 c3 a4 n4 c4 a5 n5 c5 x _ (H.out.kept HB3.out) HBG.out).mono ?_; unfold ReadR; rw [hv]; (simp only [if_true]); rintro e w4 ⟨gb, m0, m1, m2, m3, m4, m5, m6, m7, rfl, hst, bl4, h8, h9⟩; have HB4 := Lib.hid (below_thenB HB3.out HB3.out.size bl4); have HST := Lib.hid hst; have HS4 := Lib.hid (HS3.out.kept bl4); have HT4 := Lib.hid (HT3.out.kept bl4); have HR4 := Lib.hid (HR3.out.kept bl4); have t0 := (HT3.out.kept bl4).get (j := 0) rfl; clear hst bl4 h8 h9)
   | ((with_reducible show OpW 41); refine wpList_loadv _ rfl 44 (.tmp 4) rfl 5 (by kernel_rfl) w1.heap.size 0 (stC2 s B0 p0 e0 B1 p1 e1) rfl (BL.all HT4.out) rfl ?_)
   | (go_at_call 50; refine (refuse_any _ gb _ _ _ _ _ _ _ _ _ _ _ _ _ _ _ _ _ _ _ _ _ _ _ _ _ _ _ _ HST.out s _ (stay_stp _ _ _ _ HSTP.out HB4.out) _ _ _ made (HM.out.kept stay_sp HB4.out)).mono ?_; rintro e w5 ⟨rfl, bl5⟩; rw [HE.out]; have HB5 := Lib.hid (below_thenB HB4.out HB4.out.size bl5); have HR5 := Lib.hid (HR4.out.kept bl5); clear bl5)
   | ((with_reducible show OpW 46); refine wpList_build _ rfl 33 #[] rfl #[] (by rfl) (.agg siZ.toArray) (bldSi0 _) ?_)
   | ((with_reducible show OpN); refine wpList_storev _ rfl 33 (.tmp 6) (.tmp 46) rfl 7 (by kernel_rfl) w2.heap.size 0 _ siZ siZ rfl rfl HR5.out rfl (one_val _ rfl) (by decide) ?_; intro wq y1 y2 y3; have HTq : Hid (BL wq w2.heap.size 33 siZ) := Lib.hid y1; have HKq := Lib.hid y2; clear y1 y2 y3)
   | fail)
  (try simp only [Exit.inBlock, Exit.then])
  exact bodyPost_ret (results_at2 wq Try.results18 (n := 7) (by kernel_rfl) (g := w2.heap.size) (o := 0) rfl (ms := siZ) (BL.all HTq.out) rfl) rfl ⟨_, rfl, rSi_zeroE _, ((Kp.of_below (S := fun _ => False) HB5.out).after HKq.out (fun i hi e => by have := HG2.out; omega)).below (Nat.le_refl _) (fun _ h => h.elim)⟩
 ·
  have f7 : decide (0 < l) = false := decide_eq_false hl
  clear h3
  go_enter Try.func18, Try.ntmps18
  go_wp2_with (first
   | ((with_reducible show OpW 3); refine wpList_box _ rfl 33 (.tmp 0) rfl (siC a0 n0 c0 a1 n1 c1 a2 n2 c2 a3 n3 c3 a4 n4 c4 a5 n5 c5 x.pct) rfl ?_; intro w1 y1 y2 y3; have HB1 := Lib.hid y2; have HS1 := Lib.hid y1; clear y1 y2 y3)
   | ((with_reducible show OpW 4); refine wpList_box _ rfl 44 (.tmp 1) rfl (stC2 s B0 p0 e0 B1 p1 e1) rfl ?_; intro w2 y1 y2 y3; have HT2 := Lib.hid y1; have HB2 := Lib.hid (below_then HB1.out y2); have HS2 := Lib.hid (HS1.out.kept y2); clear y1 y2 y3)
   | ((with_reducible show OpW 6); refine wpList_alloc _ rfl 33 rfl siZ siZero ?_; intro w3 y1 y2 y3; have HR3 := Lib.hid y1; have HB3 := Lib.hid (below_then HB2.out y2); have HS3 := Lib.hid (HS2.out.kept y2); have HT3 := Lib.hid (HT2.out.kept y2); have HG2 := Lib.hid HB2.out.size; clear y1 y2 y3)
   | ((with_reducible show OpW 13); refine wpList_loadv _ rfl 33 (.tmp 3) rfl 7 (by kernel_rfl) w.heap.size 0 _ rfl (BL.all HS3.out) rfl ?_)
   | (go_at_call 38; refine (read_any a0 n0 c0 a1 n1 c1 a2 n2 c2 a3 n3 c3 a4 n4 c4 a5 n5 c5 x _ (H.out.kept HB3.out) HBG.out).mono ?_; unfold ReadR; rw [hv]; (simp only [if_true]); rintro e w4 ⟨gb, m0, m1, m2, m3, m4, m5, m6, m7, rfl, hst, bl4, h8, h9⟩; have HB4 := Lib.hid (below_thenB HB3.out HB3.out.size bl4); have HST := Lib.hid hst; have HS4 := Lib.hid (HS3.out.kept bl4); have HT4 := Lib.hid (HT3.out.kept bl4); have HR4 := Lib.hid (HR3.out.kept bl4); have t0 := (HT3.out.kept bl4).get (j := 0) rfl; clear hst bl4 h8 h9)
   | ((with_reducible show OpW 41); refine wpList_loadv _ rfl 44 (.tmp 4) rfl 5 (by kernel_rfl) w1.heap.size 0 (stC2 s B0 p0 e0 B1 p1 e1) rfl (BL.all HT4.out) rfl ?_)
   | (go_at_call 50; refine (refuse_any _ gb _ _ _ _ _ _ _ _ _ _ _ _ _ _ _ _ _ _ _ _ _ _ _ _ _ _ _ _ HST.out s _ (stay_stp _ _ _ _ HSTP.out HB4.out) _ _ _ made (HM.out.kept stay_sp HB4.out)).mono ?_; rintro e w5 ⟨rfl, bl5⟩; rw [HE.out]; have HB5 := Lib.hid (below_thenB HB4.out HB4.out.size bl5); have HR5 := Lib.hid (HR4.out.kept bl5); clear bl5)
   | ((with_reducible show OpW 46); refine wpList_build _ rfl 33 #[] rfl #[] (by rfl) (.agg siZ.toArray) (bldSi0 _) ?_)
   | ((with_reducible show OpN); refine wpList_storev _ rfl 33 (.tmp 6) (.tmp 46) rfl 7 (by kernel_rfl) w2.heap.size 0 _ siZ siZ rfl rfl HR5.out rfl (one_val _ rfl) (by decide) ?_; intro wq y1 y2 y3; have HTq : Hid (BL wq w2.heap.size 33 siZ) := Lib.hid y1; have HKq := Lib.hid y2; clear y1 y2 y3)
   | fail)
  (try simp only [Exit.inBlock, Exit.then])
  exact bodyPost_ret (results_at2 wq Try.results18 (n := 7) (by kernel_rfl) (g := w2.heap.size) (o := 0) rfl (ms := siZ) (BL.all HTq.out) rfl) rfl ⟨_, rfl, rSi_zeroE _, ((Kp.of_below (S := fun _ => False) HB5.out).after HKq.out (fun i hi e => by have := HG2.out; omega)).below (Nat.le_refl _) (fun _ h => h.elim)⟩
set_option maxRecDepth 100000 in
set_option maxHeartbeats 4000000 in
theorem after3 (a0 : Option Addr) (n0 c0 : Nat) (a1 : Option Addr) (n1 c1 : Nat) (a2 : Option Addr) (n2 c2 : Nat) (a3 : Option Addr) (n3 c3 : Nat) (a4 : Option Addr) (n4 c4 : Nat) (a5 : Option Addr) (n5 c5 : Nat) (x : Si) (w : World) (hq : SiOk w a0 n0 c0 a1 n1 c1 a2 n2 c2 a3 n3 c3 a4 n4 c4 a5 n5 c5 x) (hbig : x.sp.length ≤ 1000) (hv : siB x = true) (s : Stp) (cs : List Value) (hs : rStp w cs s) (B : Option Addr) (l d : Nat) (made : List Sp) (hm : LS rSp 6 72 w B l d made) (hk3 : s.kind = 3) (hl : l = 0) (hre : refE (st0 x) s made = 0) :
  Calls Try.prog 18 #[.agg (siC a0 n0 c0 a1 n1 c1 a2 n2 c2 a3 n3 c3 a4 n4 c4 a5 n5 c5 x.pct).toArray, .agg cs.toArray, .slice B l d] w (AfterR (dropHeld x s.pc) 0 w) := by
 have HSTP := Lib.hid hs
 obtain ⟨B0, p0, e0, B1, p1, e1, rfl, _⟩ := hs
 subst hl
 have H := Lib.hid hq
 have HBG := Lib.hid hbig
 have HM := Lib.hid hm
 have HRE := Lib.hid hre
 have f1 : decide (s.kind < 1) = false := by rw [hk3]; rfl
 have f2 : decide (4 < s.kind) = false := by rw [hk3]; rfl
 have f4 : (s.kind == 3) = true := by rw [hk3]; rfl
 clear hq hbig hm hre hk3
 go_enter Try.func18, Try.ntmps18
 go_wp2_with (first
  | ((with_reducible show OpW 3); refine wpList_box _ rfl 33 (.tmp 0) rfl (siC a0 n0 c0 a1 n1 c1 a2 n2 c2 a3 n3 c3 a4 n4 c4 a5 n5 c5 x.pct) rfl ?_; intro w1 y1 y2 y3; have HB1 := Lib.hid y2; have HS1 := Lib.hid y1; clear y1 y2 y3)
  | ((with_reducible show OpW 4); refine wpList_box _ rfl 44 (.tmp 1) rfl (stC2 s B0 p0 e0 B1 p1 e1) rfl ?_; intro w2 y1 y2 y3; have HT2 := Lib.hid y1; have HB2 := Lib.hid (below_then HB1.out y2); have HS2 := Lib.hid (HS1.out.kept y2); clear y1 y2 y3)
  | ((with_reducible show OpW 6); refine wpList_alloc _ rfl 33 rfl siZ siZero ?_; intro w3 y1 y2 y3; have HR3 := Lib.hid y1; have HB3 := Lib.hid (below_then HB2.out y2); have HS3 := Lib.hid (HS2.out.kept y2); have HT3 := Lib.hid (HT2.out.kept y2); have HG2 := Lib.hid HB2.out.size; clear y1 y2 y3)
  | ((with_reducible show OpW 13); refine wpList_loadv _ rfl 33 (.tmp 3) rfl 7 (by kernel_rfl) w.heap.size 0 _ rfl (BL.all HS3.out) rfl ?_)
  | (go_at_call 38; refine (read_any a0 n0 c0 a1 n1 c1 a2 n2 c2 a3 n3 c3 a4 n4 c4 a5 n5 c5 x _ (H.out.kept HB3.out) HBG.out).mono ?_; unfold ReadR; rw [hv]; (simp only [if_true]); rintro e w4 ⟨gb, m0, m1, m2, m3, m4, m5, m6, m7, rfl, hst, bl4, h8, h9⟩; have HB4 := Lib.hid (below_thenB HB3.out HB3.out.size bl4); have HST := Lib.hid hst; have HS4 := Lib.hid (HS3.out.kept bl4); have HT4 := Lib.hid (HT3.out.kept bl4); have HR4 := Lib.hid (HR3.out.kept bl4); have t0 := (HT3.out.kept bl4).get (j := 0) rfl; clear hst bl4 h8 h9)
  | ((with_reducible show OpW 41); refine wpList_loadv _ rfl 44 (.tmp 4) rfl 5 (by kernel_rfl) w1.heap.size 0 (stC2 s B0 p0 e0 B1 p1 e1) rfl (BL.all HT4.out) rfl ?_)
  | (go_at_call 50; refine (refuse_any _ gb _ _ _ _ _ _ _ _ _ _ _ _ _ _ _ _ _ _ _ _ _ _ _ _ _ _ _ _ HST.out s _ (stay_stp _ _ _ _ HSTP.out HB4.out) _ _ _ made (HM.out.kept stay_sp HB4.out)).mono ?_; rintro e w5 ⟨rfl, bl5⟩; rw [HRE.out]; have HX5 := Lib.hid bl5; have HB5 := Lib.hid (below_thenB HB4.out HB4.out.size bl5); clear bl5)
  | ((with_reducible show OpW 48); refine wpList_loadv _ rfl 33 (.tmp 3) rfl 7 (by kernel_rfl) w.heap.size 0 _ rfl (BL.all (HS4.out.kept HX5.out)) rfl ?_)
  | (go_at_call 51; refine (clone_own a0 n0 c0 a1 n1 c1 a2 n2 c2 a3 n3 c3 a4 n4 c4 a5 n5 c5 x _ (H.out.kept HB5.out)).mono ?_; rintro e w6 ⟨b0, k0, d0, b1, k1, d1, b2, k2, d2, b3, k3, d3, b4, k4, d4, b5, k5, d5, rfl, hcl, hcn, bl6⟩; have HX6 := Lib.hid (below_thenB HX5.out HX5.out.size bl6); have HB6 := Lib.hid (below_thenB HB5.out HB5.out.size bl6); have HCL := Lib.hid hcl; have HCN := Lib.hid hcn; have HG6 : Hid (w1.heap.size < w6.heap.size ∧ w2.heap.size < w6.heap.size) := Lib.hid (by have h1 := HR4.out.lt; have h3 := HT4.out.lt; have h2 := HX6.out.size; omega); have HLI := Lib.hid H.out.lims; clear hcl hcn bl6)
  | ((with_reducible show OpW 10); refine wpList_alloc _ rfl 33 rfl siZ siZero ?_; intro w7 y1 y2 y3; have HY7 := Lib.hid y1; have HB7 := Lib.hid (below_thenB HB6.out HB6.out.size y2); have HX7 := Lib.hid (below_thenB HX6.out HX6.out.size y2); have HCL7 := Lib.hid (HCL.out.kept y2); clear y1 y2 y3)
  | ((with_reducible show OpN); refine wpList_storev _ rfl 33 (.tmp 10) (.tmp 49) rfl 7 (by kernel_rfl) w6.heap.size 0 _ siZ (siC b0 k0 d0 b1 k1 d1 b2 k2 d2 b3 k3 d3 b4 k4 d4 b5 k5 d5 x.pct) rfl rfl HY7.out rfl (one_val _ rfl) (by decide) ?_; intro w8 y1 y2 y3; have HY8 : Hid (BL w8 w6.heap.size 33 (siC b0 k0 d0 b1 k1 d1 b2 k2 d2 b3 k3 d3 b4 k4 d4 b5 k5 d5 x.pct)) := Lib.hid y1; have HCL8 := Lib.hid (HCL7.out.put y2 HY7.out); have HR8 := Lib.hid (y2.bl (HR4.out.kept HX7.out) (by have := HG6.out; omega)); have HT8 := Lib.hid (y2.bl (HT4.out.kept HX7.out) (by have := HG6.out; omega)); have t0 := HT8.out.get (j := 0) rfl; have HB8 : Hid (Below w.heap.size w w8) := Lib.hid (((Kp.of_below (S := fun _ => False) HB7.out).after y2 (fun i hi e => by have := HB6.out.size; omega)).below (Nat.le_refl _) (fun _ h => h.elim)); clear y1 y2 y3; have y5 := HY8.out.get (j := 5) rfl)
  | (go_at_call 52; refine (del_pc b5 k5 d5 w1.heap.size x.held (fun q => decide (q = s.pc)) w8 (fun w => BL w w1.heap.size 44 (stC2 s B0 p0 e0 B1 p1 e1)) (ClT.of HCL8.out HLI.out).held HT8.out (fun _ _ h hb => h.kept hb) (fun _ _ g cs hb h hk => hk.bl h (fun e => by subst e; exact absurd (hb.ty h) (by decide))) (fun wf cs x hC hr => by obtain ⟨rfl, _⟩ := hr; exact after1_any x s _ _ _ _ _ _ _ wf hC)).mono ?_; rintro e w9 ⟨n', c', rfl, ht, hk9⟩; have HCT9 := Lib.hid ((ClT.of HCL8.out HLI.out).setHeld hk9 ht); have HY9 := Lib.hid (hk9.bl HY8.out (fun e => HCL8.out.held.ne_bl HY8.out (by decide) _ e rfl)); have HR9 := Lib.hid (hk9.bl HR8.out (fun e => HCL8.out.held.ne_bl HR8.out (by decide) _ e rfl)); have HB9 : Hid (Below w.heap.size w w9) := Lib.hid (((Kp.of_below (S := fun _ => False) HB8.out).after hk9 (fun i hi e => by have := HCL8.out.held.own i e; have := HB5.out.size; omega)).below (Nat.le_refl _) (fun _ h => h.elim)); clear ht hk9)
  | ((with_reducible show OpN); refine wpList_store1 _ rfl 24 (.tmp 58) (.tmp 57) rfl (slSz _ (by kernel_rfl) _) w6.heap.size 5 _ _ (.slice b5 n' c') rfl rfl HY9.out rfl rfl (by simp) ?_; intro wz a1 a2 a3; have HYz : Hid (BL wz w6.heap.size 33 (siC b0 k0 d0 b1 k1 d1 b2 k2 d2 b3 k3 d3 b4 k4 d4 b5 n' c' x.pct)) := Lib.hid a1; have HCTz := Lib.hid (HCT9.out.put a2 HY9.out); have HRz := Lib.hid (a2.bl HR9.out (by have := HG6.out; omega)); have HBz : Hid (Below w.heap.size w wz) := Lib.hid (((Kp.of_below (S := fun _ => False) HB9.out).after a2 (fun i hi e => by have := HB6.out.size; omega)).below (Nat.le_refl _) (fun _ h => h.elim)); clear a1 a2 a3)
  | ((with_reducible show OpW 102); refine wpList_loadv _ rfl 33 (.tmp 10) rfl 7 (by kernel_rfl) w6.heap.size 0 _ rfl (BL.all HYz.out) rfl ?_)
  | ((with_reducible show OpN); refine wpList_storev _ rfl 33 (.tmp 6) (.tmp 102) rfl 7 (by kernel_rfl) w2.heap.size 0 _ siZ (siC b0 k0 d0 b1 k1 d1 b2 k2 d2 b3 k3 d3 b4 k4 d4 b5 n' c' x.pct) rfl rfl HRz.out rfl (one_val _ rfl) (by decide) ?_; intro wq y1 y2 y3; have HRq : Hid (BL wq w2.heap.size 33 (siC b0 k0 d0 b1 k1 d1 b2 k2 d2 b3 k3 d3 b4 k4 d4 b5 n' c' x.pct)) := Lib.hid y1; have HCTq := Lib.hid (HCTz.out.put y2 HRz.out); have HBq : Hid (Below w.heap.size w wq) := Lib.hid (((Kp.of_below (S := fun _ => False) HBz.out).after y2 (fun i hi e => by have := HB2.out.size; omega)).below (Nat.le_refl _) (fun _ h => h.elim)); clear y1 y2 y3)
  | fail)
 (try simp only [Exit.inBlock, Exit.then])
 exact bodyPost_ret (results_at2 wq Try.results18 (n := 7) (by kernel_rfl) (g := w2.heap.size) (o := 0) rfl (ms := (siC b0 k0 d0 b1 k1 d1 b2 k2 d2 b3 k3 d3 b4 k4 d4 b5 n' c' x.pct)) (BL.all HRq.out) rfl) rfl ⟨_, rfl, ⟨_, _, _, _, _, _, _, _, _, _, _, _, _, _, _, _, _, _, rfl, HCTq.out.si H.out.pct⟩, HBq.out⟩
end Go.Proofs.Ytboglaokdgnpaaa
/- Sorted and compacted lists, plainly. -/
namespace Go.Proofs.Ytboglaokdgnpaaa
open Go Gf

theorem asc_pw {m : List (List UInt8)} (h : ascB m = true) : m.Pairwise (· < ·) := by
 have step : ∀ k, k < m.length → 0 < k → gR m (k - 1) < gR m k := fun k hk h0 => by
  have h1 := List.all_eq_true.1 h k (List.mem_range.2 hk)
  unfold ascAt at h1
  rw [Bool.and_eq_true, Bool.or_eq_true, bytesLess_eq, decide_eq_true_eq, decide_eq_true_eq] at h1
  rcases h1.2 with h2 | h2
  ·
   omega
  ·
   exact of_decide_eq_true h2
 rw [List.pairwise_iff_getElem]
 intro i j hi hj hij
 have gen : ∀ d, i + 1 + d < m.length → gR m i < gR m (i + 1 + d) := by
  intro d
  induction d with
  | zero => intro hd; exact step (i + 1) hd (by omega)
  | succ d ih => intro hd; exact str_ltr (ih (by omega)) (step (i + 1 + (d + 1)) hd (by omega))
 have h9 := gen (j - (i + 1)) (by omega)
 rw [show i + 1 + (j - (i + 1)) = j by omega] at h9
 have e : ∀ k (hk : k < m.length), gR m k = m[k] := fun k hk => by simp [gR, hk]
 rw [e i hi, e j hj] at h9
 exact h9
theorem compact_pw (z : List (List UInt8)) (h : z.Pairwise (· ≤ ·)) : ∀ m, m ≤ z.length → (Lib.compactUpTo z.toArray m).Pairwise (· < ·) ∧ ∀ y, y ∈ Lib.compactUpTo z.toArray m ↔ y ∈ z.take m := by
 intro m
 induction m with
 | zero => intro _; simp [Lib.compactUpTo]
 | succ m ih =>
  intro hm
  obtain ⟨h1, h2⟩ := ih (by omega)
  have hlt : m < z.length := by omega
  have e : z.toArray[m]! = z[m] := by rw [getElem!_pos z.toArray m (by simpa using hlt)]; simp
  have et : z.take (m + 1) = z.take m ++ [z[m]] := by rw [List.take_add_one, List.getElem?_eq_getElem hlt]; rfl
  rw [Lib.compactUpTo_succ, e, et]
  by_cases h0 : m = 0
  ·
   subst h0
   have : Lib.keeps z.toArray 0 = true := Lib.keeps_lt_one _ 0 (by omega)
   rw [this, if_pos rfl]
   simp [Lib.compactUpTo]
  have e' : z.toArray[m - 1]! = z[m - 1] := by rw [getElem!_pos z.toArray (m - 1) (by simp; omega)]; simp
  have hle : ∀ y ∈ z.take m, y ≤ z[m - 1] := fun y hy => by
   obtain ⟨k, hk, rfl⟩ := List.getElem_of_mem hy
   rw [List.length_take] at hk
   rw [List.getElem_take]
   by_cases hk1 : k = m - 1
   ·
    subst hk1; exact List.le_refl _
   ·
    exact List.pairwise_iff_getElem.1 h k (m - 1) (by omega) (by omega) (by omega)
  by_cases hd : z[m] = z[m - 1]
  ·
   have : Lib.keeps z.toArray m = false := Lib.keeps_neg (by omega) (by rw [e, e', hd])
   rw [this, if_neg (by simp), List.append_nil]
   refine ⟨h1, fun y => ?_⟩
   rw [h2 y, List.mem_append, List.mem_singleton]
   refine ⟨.inl, fun h3 => h3.elim id (fun h4 => ?_)⟩
   rw [h4, hd]
   have hm1 : m - 1 < (z.take m).length := by rw [List.length_take]; omega
   have h5 := List.getElem_mem hm1
   rw [List.getElem_take] at h5
   exact h5
  ·
   have : Lib.keeps z.toArray m = true := Lib.keeps_pos (by rw [e, e']; exact hd)
   rw [this, if_pos rfl]
   have hlt2 : z[m - 1] < z[m] := str_lle (List.pairwise_iff_getElem.1 h (m - 1) m (by omega) hlt (by omega)) (fun e => hd e.symm)
   refine ⟨List.pairwise_append.2 ⟨h1, by simp, fun a ha b hb => ?_⟩, fun y => by rw [List.mem_append, List.mem_append, h2 y]⟩
   rw [List.mem_singleton.1 hb]
   rcases List.le_iff_lt_or_eq.1 (hle a ((h2 a).1 ha)) with h5 | h5
   ·
    exact str_ltr h5 hlt2
   ·
    rw [h5]; exact hlt2
theorem ssort_le (l : List (List UInt8)) : (ssort l).Pairwise (· ≤ ·) := by
 unfold ssort
 have h1 : (l.mergeSort fun x y => decide (x ≤ y)).Pairwise (fun x y => decide (x ≤ y) = true) := List.pairwise_mergeSort (fun a b c h1 h2 => by simp only [decide_eq_true_eq] at *; exact List.le_trans h1 h2) (fun a b => by simp only [Bool.or_eq_true, decide_eq_true_eq]; exact List.le_total a b) l
 exact h1.imp (fun h => by simpa using h)
theorem condL_asc : ∀ (ids c : List (List UInt8)), c.Pairwise (· < ·) → (condL c ids).Pairwise (· < ·) ∧ ∀ y, y ∈ condL c ids ↔ y ∈ c ∨ y ∈ ids
 | [], c, h => ⟨h, fun y => by simp [condL]⟩
 | a :: l, c, h => by
  obtain ⟨h1, h2⟩ := addS_asc h a
  obtain ⟨h3, h4⟩ := condL_asc l (addS c a) h1
  refine ⟨h3, fun y => ?_⟩
  have := h4 y
  rw [h2 y] at this
  show y ∈ condL (addS c a) l ↔ _
  rw [this, List.mem_cons, or_assoc]
/-- Appended, sorted and compacted: every one added in its place. -/
theorem cond_sorted {c : List (List UInt8)} (h : c.Pairwise (· < ·)) (ids : List (List UInt8)) : Lib.compact (ssort (c ++ ids)) = condL c ids := by
 obtain ⟨h1, h2⟩ := compact_pw (ssort (c ++ ids)) (ssort_le _) _ (Nat.le_refl _)
 obtain ⟨h3, h4⟩ := condL_asc ids c h
 refine asc_ext h1 h3 (fun y => ?_)
 show y ∈ Lib.compactUpTo (ssort (c ++ ids)).toArray (ssort (c ++ ids)).length ↔ _
 rw [h2 y, h4 y, List.take_length, ssort_mem, List.mem_append]
theorem siB_cond {x : Si} (h : siB x = true) : x.cond.Pairwise (· < ·) := by
 unfold siB at h
 simp only [Bool.and_eq_true] at h
 exact asc_pw h.2.2.2.1
end Go.Proofs.Ytboglaokdgnpaaa
/- collector.After: a forgetting, a proposal. -/
namespace Go.Proofs.Ytboglaokdgnpaaa
open Go Go.RowKit Gf Sha

section
variable {α : Type} {R : Rdg α} {s b n c g gm m : Nat} {te t : TypeId} {w w' : World} {A : Option Addr} {L : List α} {l : List Value} {ids : List (List UInt8)}
theorem LT.no (h : LT R s b te w A n c L) (hb : BL w g t l) (ht : t ≠ te) : ¬ (Value.slice A n c).ownBlock = some g := fun e => by
 obtain ⟨a, ea, e2⟩ := own_addr e
 exact h.ne_bl hb ht a ea e2
theorem CSet.kpo (h : CSet gm m ids w) (hl : LT R s b te w A n c L) (ht : 78 ≠ te) (hk : Kp (fun q => (Value.slice A n c).ownBlock = some q) w w') : CSet gm m ids w' :=
 ⟨hk.bl h.1 (hl.no h.1 ht), h.2.kp hk (fun e => by
  obtain ⟨a, ea, rfl⟩ := own_addr e
  obtain ⟨cs, hb⟩ := hl.2 a ea
  exact h.2.no_cells hb)⟩
end
theorem mapZeroSB : (Try.prog.info? 78).map (·.zero) = some (some (.map none)) := by kernel_rfl
set_option maxRecDepth 100000 in
set_option maxHeartbeats 8000000 in
theorem after4 (a0 : Option Addr) (n0 c0 : Nat) (a1 : Option Addr) (n1 c1 : Nat) (a2 : Option Addr) (n2 c2 : Nat) (a3 : Option Addr) (n3 c3 : Nat) (a4 : Option Addr) (n4 c4 : Nat) (a5 : Option Addr) (n5 c5 : Nat) (x : Si) (w : World) (hq : SiOk w a0 n0 c0 a1 n1 c1 a2 n2 c2 a3 n3 c3 a4 n4 c4 a5 n5 c5 x) (hbig : x.sp.length ≤ 1000) (hv : siB x = true) (s : Stp) (cs : List Value) (hs : rStp w cs s) (B : Option Addr) (l d : Nat) (made : List Sp) (hm : LS rSp 6 72 w B l d made) (hk4 : s.kind = 4) (hl : l = 0) (hre : refE (st0 x) s made = 0) :
  Calls Try.prog 18 #[.agg (siC a0 n0 c0 a1 n1 c1 a2 n2 c2 a3 n3 c3 a4 n4 c4 a5 n5 c5 x.pct).toArray, .agg cs.toArray, .slice B l d] w (AfterR (forgetY x s.sts) 0 w) := by
 have HSTP := Lib.hid hs
 obtain ⟨B0, p0, e0, B1, p1, e1, rfl, hsl, _⟩ := hs
 subst hl
 have HSL := Lib.hid hsl
 have H := Lib.hid hq
 have HBG := Lib.hid hbig
 have HM := Lib.hid hm
 have HRE := Lib.hid hre
 have f1 : decide (s.kind < 1) = false := by rw [hk4]; rfl
 have f2 : decide (4 < s.kind) = false := by rw [hk4]; rfl
 have f4 : (s.kind == 3) = false := by rw [hk4]; rfl
 have f5 : (s.kind == 4) = true := by rw [hk4]; rfl
 clear hq hbig hm hre hk4 hsl
 go_enter Try.func18, Try.ntmps18
 go_wp2_with (first
  | ((with_reducible show OpW 3); refine wpList_box _ rfl 33 (.tmp 0) rfl (siC a0 n0 c0 a1 n1 c1 a2 n2 c2 a3 n3 c3 a4 n4 c4 a5 n5 c5 x.pct) rfl ?_; intro w1 y1 y2 y3; have HB1 := Lib.hid y2; have HS1 := Lib.hid y1; clear y1 y2 y3)
  | ((with_reducible show OpW 4); refine wpList_box _ rfl 44 (.tmp 1) rfl (stC2 s B0 p0 e0 B1 p1 e1) rfl ?_; intro w2 y1 y2 y3; have HT2 := Lib.hid y1; have HB2 := Lib.hid (below_then HB1.out y2); have HS2 := Lib.hid (HS1.out.kept y2); clear y1 y2 y3)
  | ((with_reducible show OpW 6); refine wpList_alloc _ rfl 33 rfl siZ siZero ?_; intro w3 y1 y2 y3; have HR3 := Lib.hid y1; have HB3 := Lib.hid (below_then HB2.out y2); have HS3 := Lib.hid (HS2.out.kept y2); have HT3 := Lib.hid (HT2.out.kept y2); have HG2 := Lib.hid HB2.out.size; clear y1 y2 y3)
  | ((with_reducible show OpW 13); refine wpList_loadv _ rfl 33 (.tmp 3) rfl 7 (by kernel_rfl) w.heap.size 0 _ rfl (BL.all HS3.out) rfl ?_)
  | (go_at_call 38; refine (read_any a0 n0 c0 a1 n1 c1 a2 n2 c2 a3 n3 c3 a4 n4 c4 a5 n5 c5 x _ (H.out.kept HB3.out) HBG.out).mono ?_; unfold ReadR; rw [hv]; (simp only [if_true]); rintro e w4 ⟨gb, m0, m1, m2, m3, m4, m5, m6, m7, rfl, hst, bl4, h8, h9⟩; have HB4 := Lib.hid (below_thenB HB3.out HB3.out.size bl4); have HST := Lib.hid hst; have HS4 := Lib.hid (HS3.out.kept bl4); have HT4 := Lib.hid (HT3.out.kept bl4); have HR4 := Lib.hid (HR3.out.kept bl4); have t0 := (HT3.out.kept bl4).get (j := 0) rfl; clear hst bl4 h8 h9)
  | ((with_reducible show OpW 41); refine wpList_loadv _ rfl 44 (.tmp 4) rfl 5 (by kernel_rfl) w1.heap.size 0 (stC2 s B0 p0 e0 B1 p1 e1) rfl (BL.all HT4.out) rfl ?_)
  | (go_at_call 50; refine (refuse_any _ gb _ _ _ _ _ _ _ _ _ _ _ _ _ _ _ _ _ _ _ _ _ _ _ _ _ _ _ _ HST.out s _ (stay_stp _ _ _ _ HSTP.out HB4.out) _ _ _ made (HM.out.kept stay_sp HB4.out)).mono ?_; rintro e w5 ⟨rfl, bl5⟩; rw [HRE.out]; have HX5 := Lib.hid bl5; have HB5 := Lib.hid (below_thenB HB4.out HB4.out.size bl5); clear bl5)
  | ((with_reducible show OpW 48); refine wpList_loadv _ rfl 33 (.tmp 3) rfl 7 (by kernel_rfl) w.heap.size 0 _ rfl (BL.all (HS4.out.kept HX5.out)) rfl ?_)
  | (go_at_call 51; refine (clone_own a0 n0 c0 a1 n1 c1 a2 n2 c2 a3 n3 c3 a4 n4 c4 a5 n5 c5 x _ (H.out.kept HB5.out)).mono ?_; rintro e w6 ⟨b0, k0, d0, b1, k1, d1, b2, k2, d2, b3, k3, d3, b4, k4, d4, b5, k5, d5, rfl, hcl, hcn, bl6⟩; have HX6 := Lib.hid (below_thenB HX5.out HX5.out.size bl6); have HB6 := Lib.hid (below_thenB HB5.out HB5.out.size bl6); have HCL := Lib.hid hcl; have HCN := Lib.hid hcn; have HG6 : Hid (w1.heap.size < w6.heap.size ∧ w2.heap.size < w6.heap.size) := Lib.hid (by have h1 := HR4.out.lt; have h3 := HT4.out.lt; have h2 := HX6.out.size; omega); have HLI := Lib.hid H.out.lims; clear hcl hcn bl6)
  | ((with_reducible show OpW 10); refine wpList_alloc _ rfl 33 rfl siZ siZero ?_; intro w7 y1 y2 y3; have HY7 := Lib.hid y1; have HB7 := Lib.hid (below_thenB HB6.out HB6.out.size y2); have HX7 := Lib.hid (below_thenB HX6.out HX6.out.size y2); have HCL7 := Lib.hid (HCL.out.kept y2); clear y1 y2 y3)
  | ((with_reducible show OpN); refine wpList_storev _ rfl 33 (.tmp 10) (.tmp 49) rfl 7 (by kernel_rfl) w6.heap.size 0 _ siZ (siC b0 k0 d0 b1 k1 d1 b2 k2 d2 b3 k3 d3 b4 k4 d4 b5 k5 d5 x.pct) rfl rfl HY7.out rfl (one_val _ rfl) (by decide) ?_; intro w8 y1 y2 y3; have HY8 : Hid (BL w8 w6.heap.size 33 (siC b0 k0 d0 b1 k1 d1 b2 k2 d2 b3 k3 d3 b4 k4 d4 b5 k5 d5 x.pct)) := Lib.hid y1; have HCL8 := Lib.hid (HCL7.out.put y2 HY7.out); have HR8 := Lib.hid (y2.bl (HR4.out.kept HX7.out) (by have := HG6.out; omega)); have HT8 := Lib.hid (y2.bl (HT4.out.kept HX7.out) (by have := HG6.out; omega)); have t0 := HT8.out.get (j := 0) rfl; have HB8 : Hid (Below w.heap.size w w8) := Lib.hid (((Kp.of_below (S := fun _ => False) HB7.out).after y2 (fun i hi e => by have := HB6.out.size; omega)).below (Nat.le_refl _) (fun _ h => h.elim)); clear y1 y2 y3; have t1 := HT8.out.get (j := 1) rfl; have HCT8 := Lib.hid (ClT.of HCL8.out HLI.out))
  | (go_at_call 54; refine (setOf_any B0 p0 e0 s.sts w8 (HSL.out.kept stay_str HB8.out)).mono ?_; rintro e w9 ⟨m, rfl, _, hmg, bl9⟩; have HMG9 := Lib.hid hmg; have HX9 := Lib.hid bl9; clear hmg bl9)
  | ((with_reducible show OpW 11); refine wpList_alloc1 _ rfl 78 rfl (.map none) mapZeroSB rfl ?_; intro wa y1 y2 y3; have HMVa := Lib.hid y1; have HMGa := Lib.hid (HMG9.out.kept y2); have HXa := Lib.hid (below_thenB HX9.out HX9.out.size y2); clear y1 y2 y3)
  | ((with_reducible show OpN); refine wpList_store1 _ rfl 78 (.tmp 11) (.tmp 63) rfl (slSz _ (by kernel_rfl) _) w9.heap.size 0 _ _ (.map (some m)) rfl rfl HMVa.out rfl rfl (by simp) ?_; intro wb y1 y2 y3; have HCb : Hid (CSet w9.heap.size m s.sts wb) := Lib.hid ⟨y1, HMGa.out.kp y2 (fun e => by have := HMG9.out.lt; omega)⟩; have HXb : Hid (Below w8.heap.size w8 wb) := Lib.hid (((Kp.of_below (S := fun _ => False) HXa.out).after y2 (fun i hi e => by have := HX9.out.size; omega)).below (Nat.le_refl _) (fun _ h => h.elim)); have HCTb := Lib.hid (HCT8.out.kept HXb.out); have HYb := Lib.hid (HY8.out.kept HXb.out); have HRb := Lib.hid (HR8.out.kept HXb.out); have HBb := Lib.hid (below_thenB HB8.out HB8.out.size HXb.out); have z0 := (HY8.out.kept HXb.out).get (j := 0) rfl; clear y1 y2 y3)
  | (go_at_call 55; (with_reducible show Calls _ _ #[.slice b0 k0 d0, _] _ _); refine (del_sp b0 k0 d0 w9.heap.size x.sp (fun t => hasB s.sts t.id) wb (CSet w9.heap.size m s.sts) HCTb.out.sp HCb.out CSet.kept (CSet.kp (by decide)) (fun wf cs t hC hr => after2_any cs t _ m s.sts wf hr.1 hC)).mono ?_; rintro e wc ⟨nc, cc, rfl, ht, hk⟩; have HCTc := Lib.hid (HCTb.out.setSp hk ht); have HYc := Lib.hid (hk.bl HYb.out (HCTb.out.sp.no HYb.out (by decide))); have HRc := Lib.hid (hk.bl HRb.out (HCTb.out.sp.no HRb.out (by decide))); have HCc := Lib.hid (HCb.out.kpo HCTb.out.sp (by decide) hk); have HBc : Hid (Below w.heap.size w wc) := Lib.hid (((Kp.of_below (S := fun _ => False) HBb.out).after hk (fun i hi e => by have := HCL8.out.sp.own i e; have := HB5.out.size; omega)).below (Nat.le_refl _) (fun _ h => h.elim)); clear ht hk)
  | ((with_reducible show OpN); refine wpList_store1 _ rfl 22 (.tmp 68) (.tmp 67) rfl (slSz _ (by kernel_rfl) _) w6.heap.size 0 _ _ (.slice b0 nc cc) rfl rfl HYc.out rfl rfl (by simp) ?_; intro wd y1 y2 y3; have HYd : Hid (BL wd w6.heap.size 33 (siC b0 nc cc b1 k1 d1 b2 k2 d2 b3 k3 d3 b4 k4 d4 b5 k5 d5 x.pct)) := Lib.hid y1; have HCTd := Lib.hid (HCTc.out.put y2 HYc.out); have HRd := Lib.hid (y2.bl HRc.out (by have := HG6.out; omega)); have HCd := Lib.hid (CSet.kp (by decide) _ _ _ _ HYc.out HCc.out y2); have HBd : Hid (Below w.heap.size w wd) := Lib.hid (((Kp.of_below (S := fun _ => False) HBc.out).after y2 (fun i hi e => by have := HB6.out.size; omega)).below (Nat.le_refl _) (fun _ h => h.elim)); clear y1 y2 y3; have z2 := HYd.out.get (j := 2) rfl)
  | (go_at_call 57; (with_reducible show Calls _ _ #[.slice b2 k2 d2, _] _ _); refine (del_s3 b2 k2 d2 w9.heap.size x.cond (hasB s.sts) wd (CSet w9.heap.size m s.sts) HCTd.out.cond HCd.out CSet.kept (CSet.kp (by decide)) (fun wf q hC hr => after3_any q _ m s.sts wf hr hC)).mono ?_; rintro e we ⟨ne, ce, rfl, ht, hk⟩; have HCTe := Lib.hid (HCTd.out.setCond HCN.out hk ht); have HYe := Lib.hid (hk.bl HYd.out (HCTd.out.cond.no HYd.out (by decide))); have HRe := Lib.hid (hk.bl HRd.out (HCTd.out.cond.no HRd.out (by decide))); have HCe := Lib.hid (HCd.out.kpo HCTd.out.cond (by decide) hk); have HBe : Hid (Below w.heap.size w we) := Lib.hid (((Kp.of_below (S := fun _ => False) HBd.out).after hk (fun i hi e => by have := HCL8.out.cond.own i e; have := HB5.out.size; omega)).below (Nat.le_refl _) (fun _ h => h.elim)); clear ht hk)
  | ((with_reducible show OpN); refine wpList_store1 _ rfl 23 (.tmp 73) (.tmp 72) rfl (slSz _ (by kernel_rfl) _) w6.heap.size 2 _ _ (.slice b2 ne ce) rfl rfl HYe.out rfl rfl (by simp) ?_; intro wf y1 y2 y3; have HYf : Hid (BL wf w6.heap.size 33 (siC b0 nc cc b1 k1 d1 b2 ne ce b3 k3 d3 b4 k4 d4 b5 k5 d5 x.pct)) := Lib.hid y1; have HCTf := Lib.hid (HCTe.out.put y2 HYe.out); have HRf := Lib.hid (y2.bl HRe.out (by have := HG6.out; omega)); have HCf := Lib.hid (CSet.kp (by decide) _ _ _ _ HYe.out HCe.out y2); have HBf : Hid (Below w.heap.size w wf) := Lib.hid (((Kp.of_below (S := fun _ => False) HBe.out).after y2 (fun i hi e => by have := HB6.out.size; omega)).below (Nat.le_refl _) (fun _ h => h.elim)); clear y1 y2 y3; have z4 := HYf.out.get (j := 4) rfl)
  | (go_at_call 57; (with_reducible show Calls _ _ #[.slice b4 k4 d4, _] _ _); refine (del_s4 b4 k4 d4 w9.heap.size x.carr (hasB s.sts) wf (CSet w9.heap.size m s.sts) HCTf.out.carr HCf.out CSet.kept (CSet.kp (by decide)) (fun wf q hC hr => after4_any q _ m s.sts wf hr hC)).mono ?_; rintro e wg ⟨ng, cg, rfl, ht, hk⟩; have HCTg := Lib.hid (HCTf.out.setCarr HCN.out hk ht); have HYg := Lib.hid (hk.bl HYf.out (HCTf.out.carr.no HYf.out (by decide))); have HRg := Lib.hid (hk.bl HRf.out (HCTf.out.carr.no HRf.out (by decide))); have HCg := Lib.hid (HCf.out.kpo HCTf.out.carr (by decide) hk); have HBg : Hid (Below w.heap.size w wg) := Lib.hid (((Kp.of_below (S := fun _ => False) HBf.out).after hk (fun i hi e => by have := HCL8.out.carr.own i e; have := HB5.out.size; omega)).below (Nat.le_refl _) (fun _ h => h.elim)); clear ht hk)
  | ((with_reducible show OpN); refine wpList_store1 _ rfl 23 (.tmp 78) (.tmp 77) rfl (slSz _ (by kernel_rfl) _) w6.heap.size 4 _ _ (.slice b4 ng cg) rfl rfl HYg.out rfl rfl (by simp) ?_; intro wz y1 y2 y3; have HYz : Hid (BL wz w6.heap.size 33 (siC b0 nc cc b1 k1 d1 b2 ne ce b3 k3 d3 b4 ng cg b5 k5 d5 x.pct)) := Lib.hid y1; have HCTz := Lib.hid (HCTg.out.put y2 HYg.out); have HRz := Lib.hid (y2.bl HRg.out (by have := HG6.out; omega)); have HCz := Lib.hid (CSet.kp (by decide) _ _ _ _ HYg.out HCg.out y2); have HBz : Hid (Below w.heap.size w wz) := Lib.hid (((Kp.of_below (S := fun _ => False) HBg.out).after y2 (fun i hi e => by have := HB6.out.size; omega)).below (Nat.le_refl _) (fun _ h => h.elim)); clear y1 y2 y3)
  | ((with_reducible show OpW 102); refine wpList_loadv _ rfl 33 (.tmp 10) rfl 7 (by kernel_rfl) w6.heap.size 0 _ rfl (BL.all HYz.out) rfl ?_)
  | ((with_reducible show OpN); refine wpList_storev _ rfl 33 (.tmp 6) (.tmp 102) rfl 7 (by kernel_rfl) w2.heap.size 0 _ siZ (siC b0 nc cc b1 k1 d1 b2 ne ce b3 k3 d3 b4 ng cg b5 k5 d5 x.pct) rfl rfl HRz.out rfl (one_val _ rfl) (by decide) ?_; intro wq y1 y2 y3; have HRq : Hid (BL wq w2.heap.size 33 (siC b0 nc cc b1 k1 d1 b2 ne ce b3 k3 d3 b4 ng cg b5 k5 d5 x.pct)) := Lib.hid y1; have HCTq := Lib.hid (HCTz.out.put y2 HRz.out); have HBq : Hid (Below w.heap.size w wq) := Lib.hid (((Kp.of_below (S := fun _ => False) HBz.out).after y2 (fun i hi e => by have := HB2.out.size; omega)).below (Nat.le_refl _) (fun _ h => h.elim)); clear y1 y2 y3)
  | fail)
 (try simp only [Exit.inBlock, Exit.then])
 exact bodyPost_ret (results_at2 wq Try.results18 (n := 7) (by kernel_rfl) (g := w2.heap.size) (o := 0) rfl (ms := (siC b0 nc cc b1 k1 d1 b2 ne ce b3 k3 d3 b4 ng cg b5 k5 d5 x.pct)) (BL.all HRq.out) rfl) rfl ⟨_, rfl, ⟨_, _, _, _, _, _, _, _, _, _, _, _, _, _, _, _, _, _, rfl, HCTq.out.si H.out.pct⟩, HBq.out⟩
theorem strs_flat {w : World} : ∀ (css : List (List Value)) (L : List (List UInt8)), css.length = L.length → (∀ k (h : k < L.length) (h' : k < css.length), rStr w css[k] L[k]) → css.flatten = L.map usC
 | [], [], _, _ => rfl
 | [], _ :: _, h, _ => by simp at h
 | _ :: _, [], h, _ => by simp at h
 | a :: r, b :: t, hl, h3 => by
  have h0 := (h3 0 (by simp) (by simp)).1
  simp only [List.getElem_cons_zero] at h0
  rw [List.flatten_cons, h0, List.map_cons, strs_flat r t (by simpa using hl) (fun k h h' => h3 (k + 1) (by simpa using h) (by simpa using h'))]
  rfl
theorem OT.to_rw {base : Nat} {w : World} {v : Value} {L : List (List UInt8)} (h : OT rStr 1 9 base w v L) : RW w 9 1 v L.length (L.map usC) ∧ ∀ x ∈ L, x.length ≤ reachBytes := by
 obtain ⟨css, h1, h2, h3, h4, h5⟩ := h
 rw [strs_flat css L h1 h3] at h4
 refine ⟨h4, fun x hx => ?_⟩
 obtain ⟨k, hk, rfl⟩ := List.getElem_of_mem hx
 exact (h3 k hk (by omega)).2
theorem RW.lt_str {w : World} {v : Value} {n : Nat} {L : List (List UInt8)} (h : RW w 9 1 v n (L.map usC)) (h1 : ∀ x ∈ L, x.length ≤ reachBytes) (hlim : L.length * 16 ≤ lim) : ∃ A c, v = .slice A n c ∧ LT rStr 1 16 9 w A n c L := by
 have hn : n = L.length := by have := h.1; rw [List.length_map, Nat.mul_one] at this; exact this.symm
 subst hn
 have ho : OT rStr 1 9 0 w v L := ⟨L.map fun x => [usC x], by simp, fun cs hcs => by obtain ⟨x, _, rfl⟩ := List.mem_map.1 hcs; rfl, fun k hk hk' => by rw [List.getElem_map]; exact ⟨rfl, h1 _ (List.getElem_mem hk)⟩, by
  have : (L.map fun x => [usC x]).flatten = L.map usC := by
   clear h h1 hlim
   induction L with
   | nil => rfl
   | cons a r ih => rw [List.map_cons, List.flatten_cons, ih]; rfl
  rw [this]; exact h, fun _ _ => Nat.zero_le _⟩
 obtain ⟨A, c, rfl, _⟩ := h.form
 exact ⟨A, c, rfl, LT.of ho hlim⟩
section
variable {w w' : World} {b0 b1 b2 b3 b4 b5 : Option Addr} {k0 d0 k1 d1 k2 d2 k3 d3 k4 d4 k5 d5 n : Nat} {x : Si} {v : Value} {l : List Value}
/-- The lists but the condemned. -/
theorem ClT.less (h : ClT w b0 k0 d0 b1 k1 d1 b2 k2 d2 b3 k3 d3 b4 k4 d4 b5 k5 d5 x) : ClT w b0 k0 d0 b1 k1 d1 none 0 0 b3 k3 d3 b4 k4 d4 b5 k5 d5 { x with cond := [] } :=
 ⟨h.sp, h.need, ⟨LS.nil, fun a e => by cases e⟩, h.drop, h.carr, h.held⟩
theorem ClT.more {L : List (List UInt8)} (h : ClT w b0 k0 d0 b1 k1 d1 none 0 0 b3 k3 d3 b4 k4 d4 b5 k5 d5 { x with cond := [] }) (hs : LT rStr 1 16 9 w b2 k2 d2 L) : ClT w b0 k0 d0 b1 k1 d1 b2 k2 d2 b3 k3 d3 b4 k4 d4 b5 k5 d5 { x with cond := L } :=
 ⟨h.sp, h.need, hs, h.drop, h.carr, h.held⟩
theorem ClT.kpV (h : ClT w b0 k0 d0 b1 k1 d1 none 0 0 b3 k3 d3 b4 k4 d4 b5 k5 d5 x) (hr : RW w 9 1 v n l) (hk : Kp (fun q => v.ownBlock = some q) w w') (h1 : ∀ a, b1 = some a → ¬ v.ownBlock = some a.block) (h3 : ∀ a, b3 = some a → ¬ v.ownBlock = some a.block) (h4 : ∀ a, b4 = some a → ¬ v.ownBlock = some a.block) : ClT w' b0 k0 d0 b1 k1 d1 none 0 0 b3 k3 d3 b4 k4 d4 b5 k5 d5 x := by
 have hs : ∀ {α : Type} {R : Rdg α} {s b n c : Nat} {te : TypeId} {A : Option Addr} {L : List α}, LT R s b te w A n c L → 9 ≠ te → ∀ a, A = some a → ¬ v.ownBlock = some a.block := fun hl ht a e hv => by
  obtain ⟨cs, hb⟩ := hr.ty hv
  exact hl.ne_bl hb ht a e rfl
 exact ⟨h.sp.kp hk (hs h.sp (by decide)) (fun _ _ h9 => h9.kp hk (fun i _ hi => by obtain ⟨cs, hb⟩ := hr.ty hi; exact ⟨_, _, hb, by decide⟩)), h.need.kp hk h1 (fun _ _ h => h), h.cond.kp hk (fun a e => by cases e) (fun _ _ h => h), h.drop.kp hk h3 (fun _ _ h => h), h.carr.kp hk h4 (fun _ _ h => h), h.held.kp hk (hs h.held (by decide)) (fun _ _ h => h)⟩
end
/-- No list but the condemned lies in the block of v. -/
def NV (b1 b3 b4 : Option Addr) (v : Value) : Prop := (∀ a, b1 = some a → ¬ v.ownBlock = some a.block) ∧ (∀ a, b3 = some a → ¬ v.ownBlock = some a.block) ∧ ∀ a, b4 = some a → ¬ v.ownBlock = some a.block
set_option maxRecDepth 100000 in
set_option maxHeartbeats 8000000 in
theorem after2 (a0 : Option Addr) (n0 c0 : Nat) (a1 : Option Addr) (n1 c1 : Nat) (a2 : Option Addr) (n2 c2 : Nat) (a3 : Option Addr) (n3 c3 : Nat) (a4 : Option Addr) (n4 c4 : Nat) (a5 : Option Addr) (n5 c5 : Nat) (x : Si) (w : World) (hq : SiOk w a0 n0 c0 a1 n1 c1 a2 n2 c2 a3 n3 c3 a4 n4 c4 a5 n5 c5 x) (hbig : x.sp.length ≤ 1000) (hv : siB x = true) (s : Stp) (cs : List Value) (hs : rStp w cs s) (B : Option Addr) (l d : Nat) (made : List Sp) (hm : LS rSp 6 72 w B l d made) (hk2 : s.kind = 2) (hl : l = 0) (hre : refE (st0 x) s made = 0) (hbd : x.cond.length + s.sts.length ≤ 100000) :
  Calls Try.prog 18 #[.agg (siC a0 n0 c0 a1 n1 c1 a2 n2 c2 a3 n3 c3 a4 n4 c4 a5 n5 c5 x.pct).toArray, .agg cs.toArray, .slice B l d] w (AfterR (condY x s.sts) 0 w) := by
 have HSTP := Lib.hid hs
 obtain ⟨B0, p0, e0, B1, p1, e1, rfl, hsl, _⟩ := hs
 subst hl
 have HSL := Lib.hid hsl
 have H := Lib.hid hq
 have HBG := Lib.hid hbig
 have HM := Lib.hid hm
 have HRE := Lib.hid hre
 have HP0 : Hid (p0 = s.sts.length) := Lib.hid hsl.1.symm
 have HBD : Hid (x.cond.length + p0 ≤ 100000) := Lib.hid (by rw [← hsl.1]; exact hbd)
 have HRES : Hid (Lib.compact (ssort (x.cond ++ s.sts)) = (condY x s.sts).cond) := Lib.hid (cond_sorted (siB_cond hv) s.sts)
 have f1 : decide (s.kind < 1) = false := by rw [hk2]; rfl
 have f2 : decide (4 < s.kind) = false := by rw [hk2]; rfl
 have f4 : (s.kind == 3) = false := by rw [hk2]; rfl
 have f5 : (s.kind == 4) = false := by rw [hk2]; rfl
 have f6 : (s.kind == 1) = false := by rw [hk2]; rfl
 have f8 : (s.kind == 2) = true := by rw [hk2]; rfl
 obtain ⟨dss, j1, j2, j3, hsrc⟩ := hsl.src (P := Try.prog) len_str ones_str Try.underlying23
 have HSRC := Lib.hid hsrc
 have HDS := Lib.hid (strs_flat dss s.sts j1 j3)
 clear hq hbig hm hre hk2 hsl hbd j1 j2 j3 hsrc
 go_enter Try.func18, Try.ntmps18
 go_wp2_with (first
  | ((with_reducible show OpW 3); refine wpList_box _ rfl 33 (.tmp 0) rfl (siC a0 n0 c0 a1 n1 c1 a2 n2 c2 a3 n3 c3 a4 n4 c4 a5 n5 c5 x.pct) rfl ?_; intro w1 y1 y2 y3; have HB1 := Lib.hid y2; have HS1 := Lib.hid y1; clear y1 y2 y3)
  | ((with_reducible show OpW 4); refine wpList_box _ rfl 44 (.tmp 1) rfl (stC2 s B0 p0 e0 B1 p1 e1) rfl ?_; intro w2 y1 y2 y3; have HT2 := Lib.hid y1; have HB2 := Lib.hid (below_then HB1.out y2); have HS2 := Lib.hid (HS1.out.kept y2); clear y1 y2 y3)
  | ((with_reducible show OpW 6); refine wpList_alloc _ rfl 33 rfl siZ siZero ?_; intro w3 y1 y2 y3; have HR3 := Lib.hid y1; have HB3 := Lib.hid (below_then HB2.out y2); have HS3 := Lib.hid (HS2.out.kept y2); have HT3 := Lib.hid (HT2.out.kept y2); have HG2 := Lib.hid HB2.out.size; clear y1 y2 y3)
  | ((with_reducible show OpW 13); refine wpList_loadv _ rfl 33 (.tmp 3) rfl 7 (by kernel_rfl) w.heap.size 0 _ rfl (BL.all HS3.out) rfl ?_)
  | (go_at_call 38; refine (read_any a0 n0 c0 a1 n1 c1 a2 n2 c2 a3 n3 c3 a4 n4 c4 a5 n5 c5 x _ (H.out.kept HB3.out) HBG.out).mono ?_; unfold ReadR; rw [hv]; (simp only [if_true]); rintro e w4 ⟨gb, m0, m1, m2, m3, m4, m5, m6, m7, rfl, hst, bl4, h8, h9⟩; have HB4 := Lib.hid (below_thenB HB3.out HB3.out.size bl4); have HST := Lib.hid hst; have HS4 := Lib.hid (HS3.out.kept bl4); have HT4 := Lib.hid (HT3.out.kept bl4); have HR4 := Lib.hid (HR3.out.kept bl4); have t0 := (HT3.out.kept bl4).get (j := 0) rfl; clear hst bl4 h8 h9)
  | ((with_reducible show OpW 41); refine wpList_loadv _ rfl 44 (.tmp 4) rfl 5 (by kernel_rfl) w1.heap.size 0 (stC2 s B0 p0 e0 B1 p1 e1) rfl (BL.all HT4.out) rfl ?_)
  | (go_at_call 50; refine (refuse_any _ gb _ _ _ _ _ _ _ _ _ _ _ _ _ _ _ _ _ _ _ _ _ _ _ _ _ _ _ _ HST.out s _ (stay_stp _ _ _ _ HSTP.out HB4.out) _ _ _ made (HM.out.kept stay_sp HB4.out)).mono ?_; rintro e w5 ⟨rfl, bl5⟩; rw [HRE.out]; have HX5 := Lib.hid bl5; have HB5 := Lib.hid (below_thenB HB4.out HB4.out.size bl5); clear bl5)
  | ((with_reducible show OpW 48); refine wpList_loadv _ rfl 33 (.tmp 3) rfl 7 (by kernel_rfl) w.heap.size 0 _ rfl (BL.all (HS4.out.kept HX5.out)) rfl ?_)
  | (go_at_call 51; refine (clone_own a0 n0 c0 a1 n1 c1 a2 n2 c2 a3 n3 c3 a4 n4 c4 a5 n5 c5 x _ (H.out.kept HB5.out)).mono ?_; rintro e w6 ⟨b0, k0, d0, b1, k1, d1, b2, k2, d2, b3, k3, d3, b4, k4, d4, b5, k5, d5, rfl, hcl, hcn, bl6⟩; have HX6 := Lib.hid (below_thenB HX5.out HX5.out.size bl6); have HB6 := Lib.hid (below_thenB HB5.out HB5.out.size bl6); have HCL := Lib.hid hcl; have HCN := Lib.hid hcn; have HG6 : Hid (w1.heap.size < w6.heap.size ∧ w2.heap.size < w6.heap.size) := Lib.hid (by have h1 := HR4.out.lt; have h3 := HT4.out.lt; have h2 := HX6.out.size; omega); have HLI := Lib.hid H.out.lims; clear hcl hcn bl6)
  | ((with_reducible show OpW 10); refine wpList_alloc _ rfl 33 rfl siZ siZero ?_; intro w7 y1 y2 y3; have HY7 := Lib.hid y1; have HB7 := Lib.hid (below_thenB HB6.out HB6.out.size y2); have HX7 := Lib.hid (below_thenB HX6.out HX6.out.size y2); have HCL7 := Lib.hid (HCL.out.kept y2); clear y1 y2 y3)
  | ((with_reducible show OpN); refine wpList_storev _ rfl 33 (.tmp 10) (.tmp 49) rfl 7 (by kernel_rfl) w6.heap.size 0 _ siZ (siC b0 k0 d0 b1 k1 d1 b2 k2 d2 b3 k3 d3 b4 k4 d4 b5 k5 d5 x.pct) rfl rfl HY7.out rfl (one_val _ rfl) (by decide) ?_; intro w8 y1 y2 y3; have HY8 : Hid (BL w8 w6.heap.size 33 (siC b0 k0 d0 b1 k1 d1 b2 k2 d2 b3 k3 d3 b4 k4 d4 b5 k5 d5 x.pct)) := Lib.hid y1; have HCL8 := Lib.hid (HCL7.out.put y2 HY7.out); have HR8 := Lib.hid (y2.bl (HR4.out.kept HX7.out) (by have := HG6.out; omega)); have HT8 := Lib.hid (y2.bl (HT4.out.kept HX7.out) (by have := HG6.out; omega)); have t0 := HT8.out.get (j := 0) rfl; have HB8 : Hid (Below w.heap.size w w8) := Lib.hid (((Kp.of_below (S := fun _ => False) HB7.out).after y2 (fun i hi e => by have := HB6.out.size; omega)).below (Nat.le_refl _) (fun _ h => h.elim)); clear y1 y2 y3; have t1 := HT8.out.get (j := 1) rfl; have z2 := HY8.out.get (j := 2) rfl; have HCT8 := Lib.hid (ClT.of HCL8.out HLI.out); have HRW8 := Lib.hid (HCL8.out.cond.to_rw.1); have HRB8 := Lib.hid (HCL8.out.cond.to_rw.2); have HLC := Lib.hid (slen HCL8.out.cond))
  | ((with_reducible show OpW 93); obtain ⟨iS, i1, i2, i3, i4⟩ := info_some infoStr; refine wpList_appX _ rfl (.tmp 90) (.tmp 92) 23 9 1 iS _ rfl Try.underlying23 i1 i2 i3 rfl _ x.cond.length _ rfl HRW8.out _ p0 _ rfl (HSRC.out _ HB8.out) (by rw [i4]; have := HBD.out; omega) (by have := HBD.out; omega) ?_; intro v' w9 ap; obtain ⟨A9, c9, ev, _⟩ := ap.row.form; subst ev; have HRW9 : Hid (RW w9 9 1 (.slice A9 (x.cond.length + p0) c9) (x.cond.length + p0) ((x.cond ++ s.sts).map usC)) := Lib.hid (by have h9 := ap.row; rw [HDS.out, ← List.map_append] at h9; exact h9); have HCL9 := Lib.hid (HCT8.out.less.kpV HRW8.out ap.kp (ne_own HCN.out.n12) (ne_own (fun a a' e e' => (HCN.out.n23 a' a e' e).symm)) (ne_own (fun a a' e e' => (HCN.out.n24 a' a e' e).symm))); have HNV : Hid (NV b1 b3 b4 (.slice A9 (x.cond.length + p0) c9)) := Lib.hid ⟨fun a e h => (ap.own _ h).elim (ne_own HCN.out.n12 a e) (fun h9 => by obtain ⟨cs, hb⟩ := HCT8.out.need.2 a e; have := hb.lt; omega), fun a e h => (ap.own _ h).elim (ne_own (fun a a' e e' => (HCN.out.n23 a' a e' e).symm) a e) (fun h9 => by obtain ⟨cs, hb⟩ := HCT8.out.drop.2 a e; have := hb.lt; omega), fun a e h => (ap.own _ h).elim (ne_own (fun a a' e e' => (HCN.out.n24 a' a e' e).symm) a e) (fun h9 => by obtain ⟨cs, hb⟩ := HCT8.out.carr.2 a e; have := hb.lt; omega)⟩; have HY9 := Lib.hid (ap.kp.bl HY8.out (HCT8.out.cond.no HY8.out (by decide))); have HR9 := Lib.hid (ap.kp.bl HR8.out (HCT8.out.cond.no HR8.out (by decide))); have HOW : Hid (∀ q, (Value.slice A9 (x.cond.length + p0) c9).ownBlock = some q → w.heap.size ≤ q) := Lib.hid (fun q h => (ap.own _ h).elim (fun h9 => by have := HCL8.out.cond.own q h9; have := HB5.out.size; omega) (fun h9 => by have := HB8.out.size; omega)); have HB9 : Hid (Below w.heap.size w w9) := Lib.hid (((Kp.of_below (S := fun _ => False) HB8.out).after ap.kp (fun i hi e => by have := HCL8.out.cond.own i e; have := HB5.out.size; omega)).below (Nat.le_refl _) (fun _ h => h.elim)); clear ap i1 i2 i3 i4)
  | ((with_reducible show OpN); refine wpList_store1 _ rfl 23 (.tmp 94) (.tmp 93) rfl (slSz _ (by kernel_rfl) _) w6.heap.size 2 _ _ (.slice A9 (x.cond.length + p0) c9) rfl rfl HY9.out rfl rfl (by simp) ?_; intro wa y1 y2 y3; have HYa : Hid (BL wa w6.heap.size 33 (siC b0 k0 d0 b1 k1 d1 A9 (x.cond.length + p0) c9 b3 k3 d3 b4 k4 d4 b5 k5 d5 x.pct)) := Lib.hid y1; have HCLa := Lib.hid (HCL9.out.put y2 HY9.out); have HRWa := Lib.hid (HRW9.out.kp y2 (HRW9.out.ne_bl HY9.out (by decide))); have HRa := Lib.hid (y2.bl HR9.out (by have := HG6.out; omega)); have HBa : Hid (Below w.heap.size w wa) := Lib.hid (((Kp.of_below (S := fun _ => False) HB9.out).after y2 (fun i hi e => by have := HB6.out.size; omega)).below (Nat.le_refl _) (fun _ h => h.elim)); have z2 := y1.get (j := 2) rfl; clear y1 y2 y3)
  | (go_at_call 61; refine (sort_rw _ _ _ _ HRWa.out (by have := HBD.out; omega)).mono ?_; rintro e wb ⟨rfl, hr, hk⟩; have HRWb := Lib.hid hr; have HCLb := Lib.hid (HCLa.out.kpV HRWa.out hk HNV.out.1 HNV.out.2.1 HNV.out.2.2); have HYb := Lib.hid (hk.bl HYa.out (fun e => HRWa.out.ne_bl HYa.out (by decide) _ e rfl)); have HRb := Lib.hid (hk.bl HRa.out (fun e => HRWa.out.ne_bl HRa.out (by decide) _ e rfl)); have HBb : Hid (Below w.heap.size w wb) := Lib.hid (((Kp.of_below (S := fun _ => False) HBa.out).after hk (fun i hi e => by have := HOW.out i e; omega)).below (Nat.le_refl _) (fun _ h => h.elim)); have z2 := HYb.out.get (j := 2) rfl; clear hr hk)
  | (go_at_call 62; refine (compact_rw _ _ _ _ HRWb.out (by have := HBD.out; omega)).mono ?_; rintro e wc ⟨v', rfl, hr, ho, hk⟩; rw [HRES.out] at hr; obtain ⟨Ac, cc, ev, hlt⟩ := hr.lt_str (fun y hy => by have h8 : y ∈ x.cond ∨ y ∈ s.sts := ((condL_asc s.sts x.cond (siB_cond hv)).2 y).1 hy; exact h8.elim (HRB8.out y) (fun h7 => by obtain ⟨k, hk7⟩ := List.mem_iff_getElem?.1 h7; exact HSL.out.str_ok hk7)) (by have h8 : (condY x s.sts).cond.length ≤ _ := condL_len s.sts x.cond; have := HBD.out; have := HP0.out; unfold lim; omega); subst ev; have HLTc := Lib.hid hlt; have HCTc := Lib.hid ((HCLb.out.kpV HRWb.out hk HNV.out.1 HNV.out.2.1 HNV.out.2.2).more hlt); have HYc := Lib.hid (hk.bl HYb.out (fun e => HRWb.out.ne_bl HYb.out (by decide) _ e rfl)); have HRc := Lib.hid (hk.bl HRb.out (fun e => HRWb.out.ne_bl HRb.out (by decide) _ e rfl)); have HBc : Hid (Below w.heap.size w wc) := Lib.hid (((Kp.of_below (S := fun _ => False) HBb.out).after hk (fun i hi e => by have := HOW.out i e; omega)).below (Nat.le_refl _) (fun _ h => h.elim)); obtain ⟨nc, hnc⟩ : ∃ nc, nc = (condY x s.sts).cond.length := ⟨_, rfl⟩; rw [← hnc] at HLTc HCTc ⊢; clear hr hk ho hlt hnc)
  | ((with_reducible show OpN); refine wpList_store1 _ rfl 23 (.tmp 101) (.tmp 100) rfl (slSz _ (by kernel_rfl) _) w6.heap.size 2 _ _ (.slice Ac nc cc) rfl rfl HYc.out rfl rfl (by simp) ?_; intro wz y1 y2 y3; have HYz : Hid (BL wz w6.heap.size 33 (siC b0 k0 d0 b1 k1 d1 Ac nc cc b3 k3 d3 b4 k4 d4 b5 k5 d5 x.pct)) := Lib.hid y1; have HCTz := Lib.hid (HCTc.out.put y2 HYc.out); have HRz := Lib.hid (y2.bl HRc.out (by have := HG6.out; omega)); have HBz : Hid (Below w.heap.size w wz) := Lib.hid (((Kp.of_below (S := fun _ => False) HBc.out).after y2 (fun i hi e => by have := HB6.out.size; omega)).below (Nat.le_refl _) (fun _ h => h.elim)); clear y1 y2 y3)
  | ((with_reducible show OpW 102); refine wpList_loadv _ rfl 33 (.tmp 10) rfl 7 (by kernel_rfl) w6.heap.size 0 _ rfl (BL.all HYz.out) rfl ?_)
  | ((with_reducible show OpN); refine wpList_storev _ rfl 33 (.tmp 6) (.tmp 102) rfl 7 (by kernel_rfl) w2.heap.size 0 _ siZ (siC b0 k0 d0 b1 k1 d1 Ac nc cc b3 k3 d3 b4 k4 d4 b5 k5 d5 x.pct) rfl rfl HRz.out rfl (one_val _ rfl) (by decide) ?_; intro wq y1 y2 y3; have HRq : Hid (BL wq w2.heap.size 33 (siC b0 k0 d0 b1 k1 d1 Ac nc cc b3 k3 d3 b4 k4 d4 b5 k5 d5 x.pct)) := Lib.hid y1; have HCTq := Lib.hid (HCTz.out.put y2 HRz.out); have HBq : Hid (Below w.heap.size w wq) := Lib.hid (((Kp.of_below (S := fun _ => False) HBz.out).after y2 (fun i hi e => by have := HB2.out.size; omega)).below (Nat.le_refl _) (fun _ h => h.elim)); clear y1 y2 y3)
  | fail)
 (try simp only [Exit.inBlock, Exit.then])
 exact bodyPost_ret (results_at2 wq Try.results18 (n := 7) (by kernel_rfl) (g := w2.heap.size) (o := 0) rfl (ms := (siC b0 k0 d0 b1 k1 d1 Ac nc cc b3 k3 d3 b4 k4 d4 b5 k5 d5 x.pct)) (BL.all HRq.out) rfl) rfl ⟨_, rfl, ⟨_, _, _, _, _, _, _, _, _, _, _, _, _, _, _, _, _, _, rfl, HCTq.out.si H.out.pct⟩, HBq.out⟩
end Go.Proofs.Ytboglaokdgnpaaa
