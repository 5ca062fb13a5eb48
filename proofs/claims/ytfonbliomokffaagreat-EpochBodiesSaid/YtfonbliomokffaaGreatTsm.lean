/- The reference's Decode. -/
import Derived.Test.YtfonbliomokffaaGreatTqm
import Derived.Test.YtfonbliomokffaaGreatTom
namespace Go.Proofs.YtfonbliomokffaaGreat
open Go Go.RowKit Gf Sha

theorem drec_n1 {x : En} (h : (d1S x.body).2.2 = false) : drecS x = none := by unfold drecS; rw [h]; rfl
theorem drec_n2 {x : En} (h : (d2S x.body).2.2 = false) : drecS x = none := by
  unfold drecS
  cases (d1S x.body).2.2
  · rfl
  · rw [h]; rfl
theorem drec_n3 {x : En} (h : d3S x.body = none) : drecS x = none := by
  unfold drecS
  cases (d1S x.body).2.2
  · rfl
  · cases (d2S x.body).2.2
    · rfl
    · rw [h]; rfl
theorem drec_n4 {x : En} {L : List Int} {r : List UInt8} (h : d3S x.body = some (L, r)) {M : Nat} {r4 : List UInt8} {k4 : Bool} (h4 : takeS r 1024 = (M, r4, k4)) (hn : ¬ (k4 = true ∧ r4.length = 32 * M)) : drecS x = none := by
  unfold drecS
  cases (d1S x.body).2.2
  · rfl
  · cases (d2S x.body).2.2
    · rfl
    · rw [h]
      simp only [if_true, h4, if_neg hn]
theorem drec_y {x : En} {L : List Int} {r : List UInt8} (h1 : (d1S x.body).2.2 = true) (h2 : (d2S x.body).2.2 = true) (h : d3S x.body = some (L, r)) {M : Nat} {r4 : List UInt8} (h4 : takeS r 1024 = (M, r4, true)) (hn : r4.length = 32 * M) :
    drecS x = if validB ⟨x.dev, x.seq, ((d1S x.body).1 : Int), L, ssS r4 M⟩ = true then some ⟨x.dev, x.seq, ((d1S x.body).1 : Int), L, ssS r4 M⟩ else none := by
  unfold drecS
  rw [if_pos h1, if_pos h2, h]
  simp only [h4]
  rw [if_pos ⟨trivial, hn⟩]
theorem wsS_no {b : List UInt8} {k : Nat} (h : wsS b k = none) : ∀ j, wsS b (k + j) = none
  | 0 => h
  | j + 1 => by
    show wsS b (k + j + 1) = none
    rw [wsS, wsS_no h j]
theorem wsS_len {b : List UInt8} : ∀ {k L r}, wsS b k = some (L, r) → L.length = k
  | 0, L, r, h => by
    simp only [wsS, Option.some.injEq, Prod.mk.injEq] at h
    rw [← h.1]; rfl
  | k + 1, L, r, h => by
    rw [wsS] at h
    cases hw : wsS b k with
    | none => rw [hw] at h; cases h
    | some y =>
      rw [hw] at h
      simp only at h
      split at h
      · simp only [Option.some.injEq, Prod.mk.injEq] at h
        rw [← h.1, List.length_append, wsS_len (L := y.1) (r := y.2) hw]; rfl
      · cases h
theorem ssS_len (b : List UInt8) (k : Nat) : (ssS b k).length = k := by simp [ssS]
theorem ssS_step (b : List UInt8) (k : Nat) : ssS b (k + 1) = ssS b k ++ [(b.drop (32 * k)).take 32] := by
  rw [ssS, List.range_succ, List.map_append]; rfl
/-- The proposal under construction, the result's cells, its lists. -/
structure DG (w0 w : World) (gr gp : Nat) (dev seq vt : Int) (v1 v2 : Value) (L1 : List Int) (L2 : List (List UInt8)) : Prop where
  bl : BL w gp 40 [.int .i64 dev, .int .i64 seq, .int .i64 vt, v1, v2]
  br : BL w gr 40 ppZ
  o1 : OL rInt 1 3 w0 w v1 L1
  o2 : OL rStr 1 9 w0 w v2 L2
  low : Below w0.heap.size w0 w
  hp : w0.heap.size ≤ gp
  hr : w0.heap.size ≤ gr
  ne : gr ≠ gp
section
variable {w0 w w' : World} {gr gp : Nat} {dev seq vt : Int} {v1 v2 : Value} {L1 : List Int} {L2 : List (List UInt8)}
theorem DG.kept (h : DG w0 w gr gp dev seq vt v1 v2 L1 L2) (hb : Below w.heap.size w w') : DG w0 w' gr gp dev seq vt v1 v2 L1 L2 :=
  ⟨h.bl.kept hb, h.br.kept hb, h.o1.kept hb, h.o2.kept hb, below_thenB h.low h.low.size hb, h.hp, h.hr, h.ne⟩
theorem DG.put (h : DG w0 w gr gp dev seq vt v1 v2 L1 L2) {dev' seq' vt' : Int} {u1 u2 : Value} (hb : BL w' gp 40 [.int .i64 dev', .int .i64 seq', .int .i64 vt', u1, u2]) (hk : Kp (· = gp) w w') (e1 : u1 = v1) (e2 : u2 = v2) : DG w0 w' gr gp dev' seq' vt' v1 v2 L1 L2 := by
  obtain ⟨_, r1⟩ := h.o1.row
  obtain ⟨_, r2⟩ := h.o2.row
  subst e1 e2
  exact ⟨hb, hk.bl h.br (fun e => h.ne e), h.o1.kp hk (r1.ne_bl h.bl (by decide)), h.o2.kp hk (r2.ne_bl h.bl (by decide)), low_kp h.low hk (fun i hi e => by have := h.hp; omega), h.hp, h.hr, h.ne⟩
theorem DG.ones (h : DG w0 w gr gp dev seq vt v1 v2 L1 L2) : ∀ u ∈ [Value.int .i64 dev, .int .i64 seq, .int .i64 vt, v1, v2], u.oneCell' = true := by
  obtain ⟨_, r1⟩ := h.o1.row
  obtain ⟨_, r2⟩ := h.o2.row
  obtain ⟨A1, c1, e1, _⟩ := r1.form
  obtain ⟨A2, c2, e2, _⟩ := r2.form
  subst e1 e2
  exact one_val _ rfl
end
/-- The two lists while one of them grows, ahead of the store of its field. -/
theorem DG.app1 {w0 w w' : World} {gr gp : Nat} {dev seq vt : Int} {v1 v2 : Value} {L1 : List Int} {L2 : List (List UInt8)} (h : DG w0 w gr gp dev seq vt v1 v2 L1 L2) {k : Nat} {l xs : List Value} {v1' : Value} {L1' : List Int} (hrow : RW w 3 1 v1 k l) (ap : AppR w 3 1 v1 k 1 l xs v1' w') (ho : OL rInt 1 3 w0 w' v1' L1')
    {w9 : World} (hb : BL w9 gp 40 [.int .i64 dev, .int .i64 seq, .int .i64 vt, v1', v2]) (hk : Kp (· = gp) w' w9) : DG w0 w9 gr gp dev seq vt v1' v2 L1' L2 := by
  obtain ⟨_, r2⟩ := h.o2.row
  have hbl := ap.kp.bl h.bl (own_ty hrow h.bl (by decide))
  have hbr := ap.kp.bl h.br (own_ty hrow h.br (by decide))
  have ho2 : OL rStr 1 9 w0 w' v2 L2 := h.o2.kp ap.kp (fun i e2 e1 => by
      obtain ⟨_, hl⟩ := r2.ty e2
      exact own_ty hrow hl (by decide) e1)
  obtain ⟨_, r1'⟩ := ho.row
  obtain ⟨_, r2'⟩ := ho2.row
  have hl := low_kp h.low ap.kp (fun i hi e => by have := h.o1.own i e; omega)
  exact ⟨hb, hk.bl hbr (fun e => h.ne e), ho.kp hk (r1'.ne_bl hbl (by decide)), ho2.kp hk (r2'.ne_bl hbl (by decide)), low_kp hl hk (fun i hi e => by have := h.hp; omega), h.hp, h.hr, h.ne⟩
theorem DG.app2 {w0 w w' : World} {gr gp : Nat} {dev seq vt : Int} {v1 v2 : Value} {L1 : List Int} {L2 : List (List UInt8)} (h : DG w0 w gr gp dev seq vt v1 v2 L1 L2) {k : Nat} {l xs : List Value} {v2' : Value} {L2' : List (List UInt8)} (hrow : RW w 9 1 v2 k l) (ap : AppR w 9 1 v2 k 1 l xs v2' w') (ho : OL rStr 1 9 w0 w' v2' L2')
    {w9 : World} (hb : BL w9 gp 40 [.int .i64 dev, .int .i64 seq, .int .i64 vt, v1, v2']) (hk : Kp (· = gp) w' w9) : DG w0 w9 gr gp dev seq vt v1 v2' L1 L2' := by
  obtain ⟨_, r1⟩ := h.o1.row
  have hbl := ap.kp.bl h.bl (own_ty hrow h.bl (by decide))
  have hbr := ap.kp.bl h.br (own_ty hrow h.br (by decide))
  have ho1 : OL rInt 1 3 w0 w' v1 L1 := h.o1.kp ap.kp (fun i e1 e2 => by
      obtain ⟨_, hl⟩ := r1.ty e1
      exact own_ty hrow hl (by decide) e2)
  obtain ⟨_, r1'⟩ := ho1.row
  obtain ⟨_, r2'⟩ := ho.row
  have hl := low_kp h.low ap.kp (fun i hi e => by have := h.o2.own i e; omega)
  exact ⟨hb, hk.bl hbr (fun e => h.ne e), ho1.kp hk (r1'.ne_bl hbl (by decide)), ho.kp hk (r2'.ne_bl hbl (by decide)), low_kp hl hk (fun i hi e => by have := h.hp; omega), h.hp, h.hr, h.ne⟩
theorem bldRp2 (a b : Int) (w : World) : (Instr.build 40 #[(0, .int .i64 a), (1, .int .i64 b)]).run Tryz.prog w = .ok (.agg [.int .i64 a, .int .i64 b, .int .i64 0, .slice none 0 0, .slice none 0 0].toArray) w := by kernel_rfl
/-- What the reference's Decode hands back. -/
def RDecR (x : En) (w : World) (e : Ending) (w' : World) : Prop :=
  (∀ p, drecS x = some p → ∃ cs, e = .returned (.tuple #[.agg cs.toArray, .bool true]) ∧ rPpT w' cs p) ∧ (drecS x = none → ∃ cs : List Value, e = .returned (.tuple #[.agg cs.toArray, .bool false]) ∧ cs.length = 5 ∧ ∀ u ∈ cs, u.oneCell' = true) ∧ Below w.heap.size w w'
set_option maxRecDepth 100000 in
set_option maxHeartbeats 8000000 in
theorem rdec_any (A : Option Addr) (n c : Nat) (x : En) (w : World) (h : BS w A n c x.body) (hw1 : wfI x.dev) (hw2 : wfI x.seq) :
    Calls Tryz.prog 35 #[.int .i64 x.dev, .int .i64 x.seq, .slice A n c] w (RDecR x w) := by
  have HBS := Lib.hid h
  have HW1 := Lib.hid hw1
  have HW2 := Lib.hid hw2
  clear h hw1 hw2
  obtain ⟨V, r1, k1, e1⟩ : ∃ D r k, takeS x.body 11 = (D, r, k) := ⟨_, _, _, rfl⟩
  obtain ⟨N, r2, k2, e2⟩ : ∃ D r k, takeS r1 3 = (D, r, k) := ⟨_, _, _, rfl⟩
  have HE1 := Lib.hid e1
  have HE2 := Lib.hid e2
  have d1 : d1S x.body = (V, r1, k1) := e1
  have d2 : d2S x.body = (N, r2, k2) := by unfold d2S; rw [d1]; exact e2
  have HD1 := Lib.hid d1
  have HD2 := Lib.hid d2
  clear e1 e2 d1 d2
  cases k1 with
  | false =>
    have HE : Hid (drecS x = none) := Lib.hid (drec_n1 (by rw [HD1.out]))
    go_enter Tryz.func35, Tryz.ntmps35
    go_wp2_with (first
      | ((with_reducible show wpList _ _ _ (⟨some 6, _, _, _, _, _⟩ :: _) _ _); refine wpList_alloc _ rfl 40 rfl ppZ rpZero ?_; intro w1 y1 y2 y3; have HR1 := Lib.hid y1; have HB1 := Lib.hid y2; clear y1 y2 y3)
      | ((with_reducible show wpList _ _ _ (⟨some 16, _, _, _, _, _⟩ :: _) _ _); refine wpList_build _ rfl 40 _ rfl #[(0, .int .i64 x.dev), (1, .int .i64 x.seq)] (by rfl) _ (bldRp2 _ _ _) ?_)
      | ((with_reducible show wpList _ _ _ (⟨some 8, _, _, _, _, _⟩ :: _) _ _); refine wpList_alloc _ rfl 40 rfl ppZ rpZero ?_; intro w2 y1 y2 y3; have HP2 := Lib.hid y1; have HR2 := Lib.hid (HR1.out.kept y2); have HB2 := Lib.hid (below_then HB1.out y2); clear y1 y2 y3)
      | ((with_reducible show wpList _ _ _ (⟨none, _, _, _, _, _⟩ :: _) _ _); refine wpList_storev _ rfl 40 (.tmp 8) (.tmp 16) rfl 5 (by kernel_rfl) w1.heap.size 0 _ ppZ [.int .i64 x.dev, .int .i64 x.seq, .int .i64 0, .slice none 0 0, .slice none 0 0] rfl rfl HP2.out rfl (one_val _ rfl) (by decide) ?_; intro w3 y1 y2 y3; have HD3 : Hid (DG w w3 w.heap.size w1.heap.size x.dev x.seq 0 (.slice none 0 0) (.slice none 0 0) [] []) := Lib.hid ⟨y1, y2.bl HR2.out (fun e => by have := HR1.out.lt; omega), OL.nil _ _ _ _ _, OL.nil _ _ _ _ _, low_kp HB2.out y2 (fun i hi e => by have := HB1.out.size; omega), HB1.out.size, Nat.le_refl _, fun e => by have := HR1.out.lt; omega⟩; clear y1 y2 y3)
      | (go_at_call 71; (with_reducible show Calls _ _ #[_, .int .i64 11] _ _); refine (take_any A n c x.body 11 (by decide) w3 (HBS.out.kept HD3.out.low)).mono ?_; rw [HE1.out]; rintro e w4 ⟨A4, n4, c4, rfl, x1, x2⟩; have HD4 := Lib.hid (HD3.out.kept x2); have HS4 := Lib.hid (x1 w HBS.out); clear x1 x2)
      | ((with_reducible show wpList _ _ _ (⟨none, _, _, _, _, _⟩ :: _) _ _); refine wpList_store1 _ rfl 3 (.tmp 23) (.tmp 20) rfl (sz1 _ (by kernel_rfl) _) w1.heap.size 2 _ _ (.int .i64 (V : Int)) rfl rfl HD4.out.bl rfl rfl (by simp) ?_; intro w5 y1 y2 y3; have HD5 := Lib.hid (HD4.out.put (vt' := (V : Int)) y1 y2 rfl rfl); clear y1 y2 y3)
      | ((with_reducible show wpList _ _ _ (⟨some 26, _, _, _, _, _⟩ :: _) _ _); refine wpList_loadv _ rfl 40 (.tmp 8) rfl 5 (by kernel_rfl) w1.heap.size 0 _ rfl (BL.all (HD5).out.bl) rfl ?_)
      | ((with_reducible show wpList _ _ _ (⟨none, _, _, _, _, _⟩ :: _) _ _); refine wpList_storev _ rfl 40 (.tmp 6) (.tmp 26) rfl 5 (by kernel_rfl) w.heap.size 0 _ ppZ [.int .i64 x.dev, .int .i64 x.seq, .int .i64 (V : Int), .slice none 0 0, .slice none 0 0] rfl rfl (HD5).out.br rfl (HD5).out.ones (by decide) ?_; intro wz y1 y2 y3; rw [splice_pp ppZ _ (by rfl)] at y1; have HPZ := Lib.hid y1; have HBZ := Lib.hid (low_kp (HD5).out.low y2 (fun i hi e => by have := (HD5).out.hr; omega)); clear y1 y2 y3)
      | fail)
    refine bodyPost_ret (results_at2 _ Tryz.results35 (by kernel_rfl) rfl (BL.all HPZ.out) rfl) rfl ?_
    exact ⟨fun p e => (by rw [HE.out] at e; cases e), fun _ => ⟨_, rfl, rfl, (HD5).out.ones⟩, HBZ.out⟩
  | true =>
    cases k2 with
    | false =>
      have HE : Hid (drecS x = none) := Lib.hid (drec_n2 (by rw [HD2.out]))
      go_enter Tryz.func35, Tryz.ntmps35
      go_wp2_with (first
        | ((with_reducible show wpList _ _ _ (⟨some 6, _, _, _, _, _⟩ :: _) _ _); refine wpList_alloc _ rfl 40 rfl ppZ rpZero ?_; intro w1 y1 y2 y3; have HR1 := Lib.hid y1; have HB1 := Lib.hid y2; clear y1 y2 y3)
        | ((with_reducible show wpList _ _ _ (⟨some 16, _, _, _, _, _⟩ :: _) _ _); refine wpList_build _ rfl 40 _ rfl #[(0, .int .i64 x.dev), (1, .int .i64 x.seq)] (by rfl) _ (bldRp2 _ _ _) ?_)
        | ((with_reducible show wpList _ _ _ (⟨some 8, _, _, _, _, _⟩ :: _) _ _); refine wpList_alloc _ rfl 40 rfl ppZ rpZero ?_; intro w2 y1 y2 y3; have HP2 := Lib.hid y1; have HR2 := Lib.hid (HR1.out.kept y2); have HB2 := Lib.hid (below_then HB1.out y2); clear y1 y2 y3)
        | ((with_reducible show wpList _ _ _ (⟨none, _, _, _, _, _⟩ :: _) _ _); refine wpList_storev _ rfl 40 (.tmp 8) (.tmp 16) rfl 5 (by kernel_rfl) w1.heap.size 0 _ ppZ [.int .i64 x.dev, .int .i64 x.seq, .int .i64 0, .slice none 0 0, .slice none 0 0] rfl rfl HP2.out rfl (one_val _ rfl) (by decide) ?_; intro w3 y1 y2 y3; have HD3 : Hid (DG w w3 w.heap.size w1.heap.size x.dev x.seq 0 (.slice none 0 0) (.slice none 0 0) [] []) := Lib.hid ⟨y1, y2.bl HR2.out (fun e => by have := HR1.out.lt; omega), OL.nil _ _ _ _ _, OL.nil _ _ _ _ _, low_kp HB2.out y2 (fun i hi e => by have := HB1.out.size; omega), HB1.out.size, Nat.le_refl _, fun e => by have := HR1.out.lt; omega⟩; clear y1 y2 y3)
        | (go_at_call 71; (with_reducible show Calls _ _ #[_, .int .i64 11] _ _); refine (take_any A n c x.body 11 (by decide) w3 (HBS.out.kept HD3.out.low)).mono ?_; rw [HE1.out]; rintro e w4 ⟨A4, n4, c4, rfl, x1, x2⟩; have HD4 := Lib.hid (HD3.out.kept x2); have HS4 := Lib.hid (x1 w HBS.out); clear x1 x2)
        | ((with_reducible show wpList _ _ _ (⟨none, _, _, _, _, _⟩ :: _) _ _); refine wpList_store1 _ rfl 3 (.tmp 23) (.tmp 20) rfl (sz1 _ (by kernel_rfl) _) w1.heap.size 2 _ _ (.int .i64 (V : Int)) rfl rfl HD4.out.bl rfl rfl (by simp) ?_; intro w5 y1 y2 y3; have HD5 := Lib.hid (HD4.out.put (vt' := (V : Int)) y1 y2 rfl rfl); clear y1 y2 y3)
        | (go_at_call 71; (with_reducible show Calls _ _ #[_, .int .i64 3] _ _); refine (take_any A4 n4 c4 r1 3 (by decide) w5 (HS4.out.kept HD5.out.low)).mono ?_; rw [HE2.out]; rintro e w6 ⟨A6, n6, c6, rfl, x1, x2⟩; have HD6 := Lib.hid (HD5.out.kept x2); have HS6 := Lib.hid (x1 w HS4.out); clear x1 x2)
        | ((with_reducible show wpList _ _ _ (⟨some 35, _, _, _, _, _⟩ :: _) _ _); refine wpList_loadv _ rfl 40 (.tmp 8) rfl 5 (by kernel_rfl) w1.heap.size 0 _ rfl (BL.all (HD6).out.bl) rfl ?_)
        | ((with_reducible show wpList _ _ _ (⟨none, _, _, _, _, _⟩ :: _) _ _); refine wpList_storev _ rfl 40 (.tmp 6) (.tmp 35) rfl 5 (by kernel_rfl) w.heap.size 0 _ ppZ [.int .i64 x.dev, .int .i64 x.seq, .int .i64 (V : Int), .slice none 0 0, .slice none 0 0] rfl rfl (HD6).out.br rfl (HD6).out.ones (by decide) ?_; intro wz y1 y2 y3; rw [splice_pp ppZ _ (by rfl)] at y1; have HPZ := Lib.hid y1; have HBZ := Lib.hid (low_kp (HD6).out.low y2 (fun i hi e => by have := (HD6).out.hr; omega)); clear y1 y2 y3)
        | fail)
      refine bodyPost_ret (results_at2 _ Tryz.results35 (by kernel_rfl) rfl (BL.all HPZ.out) rfl) rfl ?_
      exact ⟨fun p e => (by rw [HE.out] at e; cases e), fun _ => ⟨_, rfl, rfl, (HD6).out.ones⟩, HBZ.out⟩
    | true =>
      have hN3 : N ≤ 3 := by
        obtain ⟨v, k, _, h3, h4⟩ := takeS_some (b := r1) (most := 3) (by decide) (by rw [HE2.out])
        rw [HE2.out] at h4
        have := congrArg Prod.fst h4
        simp only at this
        omega
      have HV11 : Hid (V ≤ 11) := Lib.hid (by
        obtain ⟨v, k, _, h3, h4⟩ := takeS_some (b := x.body) (most := 11) (by decide) (by rw [HE1.out])
        rw [HE1.out] at h4
        have := congrArg Prod.fst h4
        simp only at this
        omega)
      have H3 : Hid (d3S x.body = wsS r2 N) := Lib.hid (by unfold d3S; rw [HD2.out])
      go_enter Tryz.func35, Tryz.ntmps35
      go_wp2_with (first
        | ((with_reducible show wpList _ _ _ (⟨some 6, _, _, _, _, _⟩ :: _) _ _); refine wpList_alloc _ rfl 40 rfl ppZ rpZero ?_; intro w1 y1 y2 y3; have HR1 := Lib.hid y1; have HB1 := Lib.hid y2; clear y1 y2 y3)
        | ((with_reducible show wpList _ _ _ (⟨some 16, _, _, _, _, _⟩ :: _) _ _); refine wpList_build _ rfl 40 _ rfl #[(0, .int .i64 x.dev), (1, .int .i64 x.seq)] (by rfl) _ (bldRp2 _ _ _) ?_)
        | ((with_reducible show wpList _ _ _ (⟨some 8, _, _, _, _, _⟩ :: _) _ _); refine wpList_alloc _ rfl 40 rfl ppZ rpZero ?_; intro w2 y1 y2 y3; have HP2 := Lib.hid y1; have HR2 := Lib.hid (HR1.out.kept y2); have HB2 := Lib.hid (below_then HB1.out y2); clear y1 y2 y3)
        | ((with_reducible show wpList _ _ _ (⟨none, _, _, _, _, _⟩ :: _) _ _); refine wpList_storev _ rfl 40 (.tmp 8) (.tmp 16) rfl 5 (by kernel_rfl) w1.heap.size 0 _ ppZ [.int .i64 x.dev, .int .i64 x.seq, .int .i64 0, .slice none 0 0, .slice none 0 0] rfl rfl HP2.out rfl (one_val _ rfl) (by decide) ?_; intro w3 y1 y2 y3; have HD3 : Hid (DG w w3 w.heap.size w1.heap.size x.dev x.seq 0 (.slice none 0 0) (.slice none 0 0) [] []) := Lib.hid ⟨y1, y2.bl HR2.out (fun e => by have := HR1.out.lt; omega), OL.nil _ _ _ _ _, OL.nil _ _ _ _ _, low_kp HB2.out y2 (fun i hi e => by have := HB1.out.size; omega), HB1.out.size, Nat.le_refl _, fun e => by have := HR1.out.lt; omega⟩; clear y1 y2 y3)
        | (go_at_call 71; (with_reducible show Calls _ _ #[_, .int .i64 11] _ _); refine (take_any A n c x.body 11 (by decide) w3 (HBS.out.kept HD3.out.low)).mono ?_; rw [HE1.out]; rintro e w4 ⟨A4, n4, c4, rfl, x1, x2⟩; have HD4 := Lib.hid (HD3.out.kept x2); have HS4 := Lib.hid (x1 w HBS.out); clear x1 x2)
        | ((with_reducible show wpList _ _ _ (⟨none, _, _, _, _, _⟩ :: _) _ _); refine wpList_store1 _ rfl 3 (.tmp 23) (.tmp 20) rfl (sz1 _ (by kernel_rfl) _) w1.heap.size 2 _ _ (.int .i64 (V : Int)) rfl rfl HD4.out.bl rfl rfl (by simp) ?_; intro w5 y1 y2 y3; have HD5 := Lib.hid (HD4.out.put (vt' := (V : Int)) y1 y2 rfl rfl); clear y1 y2 y3)
        | (go_at_call 71; (with_reducible show Calls _ _ #[_, .int .i64 3] _ _); refine (take_any A4 n4 c4 r1 3 (by decide) w5 (HS4.out.kept HD5.out.low)).mono ?_; rw [HE2.out]; rintro e w6 ⟨A6, n6, c6, rfl, x1, x2⟩; have HD6 := Lib.hid (HD5.out.kept x2); have HS6 := Lib.hid (x1 w HS4.out); clear x1 x2)
        | fail)
      obtain ⟨gp, hgp⟩ : ∃ g, g = w1.heap.size := ⟨_, rfl⟩
      rw [← hgp] at HD6 ⊢
      clear hgp
      go_loopw [2, 10, 11, 12] (fun bv zv okv iv wr => ∃ (k : Nat) (L : List Int) (r : List UInt8) (A' : Option Addr) (n' c' : Nat) (z : Int) (v1 : Value), k ≤ N ∧ bv = .slice A' n' c' ∧ zv = .int .i64 z ∧ okv = .bool true ∧ iv = .int .i64 (k : Int) ∧ Hid (wsS r2 k = some (L, r)) ∧ Hid (BS w A' n' c' r) ∧ Hid (DG w wr w.heap.size gp x.dev x.seq (V : Int) v1 (.slice none 0 0) L [])) (fun _ _ _ iv _ => N - (intOf iv).toNat)
      case atStart => exact ⟨0, [], r2, A6, n6, c6, 0, _, by omega, rfl, rfl, rfl, rfl, Lib.hid rfl, HS6, HD6⟩
      case round =>
        obtain ⟨k, L, r, A', n', c', z, v1, hk, rfl, rfl, rfl, rfl, hws, hbs, hd⟩ := hrel
        obtain ⟨wx, hwx⟩ : ∃ x, x = wr := ⟨_, rfl⟩
        rw [← hwx] at hd ⊢
        clear hwx
        have HLEN : Hid (L.length = k) := Lib.hid (wsS_len hws.out)
        by_cases hlt : k < N
        · obtain ⟨Y, r9, k9, e9⟩ : ∃ D r' k, takeS r 12 = (D, r', k) := ⟨_, _, _, rfl⟩
          have HE9 := Lib.hid e9
          clear e9
          cases k9 with
          | false =>
            have HE : Hid (drecS x = none) := Lib.hid (drec_n3 (by
              rw [H3.out, show N = (k + 1) + (N - (k + 1)) by omega]
              exact wsS_no (by rw [wsS, hws.out]; simp only [HE9.out]; rfl) _))
            go_wp2_with (first
              | (go_at_call 71; refine (take_any A' n' c' r 12 (by decide) wx (hbs.out.kept hd.out.low)).mono ?_; rw [HE9.out]; rintro e w6 ⟨A9, n9, c9, rfl, x1, x2⟩; have HDX := Lib.hid (hd.out.kept x2); clear x1 x2)
              | ((with_reducible show wpList _ _ _ (⟨some 49, _, _, _, _, _⟩ :: _) _ _); refine wpList_loadv _ rfl 40 (.tmp 8) rfl 5 (by kernel_rfl) gp 0 _ rfl (BL.all (HDX).out.bl) rfl ?_)
              | ((with_reducible show wpList _ _ _ (⟨none, _, _, _, _, _⟩ :: _) _ _); refine wpList_storev _ rfl 40 (.tmp 6) (.tmp 49) rfl 5 (by kernel_rfl) w.heap.size 0 _ ppZ [.int .i64 x.dev, .int .i64 x.seq, .int .i64 (V : Int), v1, .slice none 0 0] rfl rfl (HDX).out.br rfl (HDX).out.ones (by decide) ?_; intro wz y1 y2 y3; rw [splice_pp ppZ _ (by rfl)] at y1; have HPZ := Lib.hid y1; have HBZ := Lib.hid (low_kp (HDX).out.low y2 (fun i hi e => by have := (HDX).out.hr; omega)); clear y1 y2 y3)
              | fail)
            refine bodyPost_ret (results_at2 _ Tryz.results35 (by kernel_rfl) rfl (BL.all HPZ.out) rfl) rfl ?_
            exact ⟨fun p e => (by rw [HE.out] at e; cases e), fun _ => ⟨_, rfl, rfl, (HDX).out.ones⟩, HBZ.out⟩
          | true =>
            have HY : Hid (Y ≤ 12) := Lib.hid (by
              obtain ⟨v, k, _, h3, h4⟩ := takeS_some (b := r) (most := 12) (by decide) (by rw [HE9.out])
              rw [HE9.out] at h4
              have := congrArg Prod.fst h4
              simp only at this
              omega)
            have HNX : Hid (wsS r2 (k + 1) = some (L ++ [(Y : Int)], r9)) := Lib.hid (by rw [wsS, hws.out]; simp only [HE9.out, if_true])
            go_wp2_with (first
              | (go_at_call 71; refine (take_any A' n' c' r 12 (by decide) wx (hbs.out.kept hd.out.low)).mono ?_; rw [HE9.out]; rintro e w6 ⟨A9, n9, c9, rfl, x1, x2⟩; have HDX := Lib.hid (hd.out.kept x2); have HS9 := Lib.hid (x1 w hbs.out); have q3 := HDX.out.bl.get (j := 3) rfl; clear x1 x2)
              | ((with_reducible show wpList _ _ _ (⟨some 53, _, _, _, _, _⟩ :: _) _ _); refine wpList_bslice _ rfl 23 3 1 _ rfl #[(0, .int .i64 (Y : Int))] (by rw [List.map_toArray]; rfl) [.int .i64 (Y : Int)] (bslI _ _) ?_; intro w7 y1 y2 y3; have HD7 := Lib.hid (HDX.out.kept y2); have HG7 := Lib.hid y1; clear y1 y2 y3)
              | ((with_reducible show wpList _ _ _ (⟨some 54, _, _, _, _, _⟩ :: _) _ _); obtain ⟨iS, i1, i2, i3, i4⟩ := info_some infoI; obtain ⟨css, hC1, hC2, hC3, hC4, hC5⟩ := HD7.out.o1; refine wpList_appRW _ rfl (.tmp 51) (.tmp 53) 23 3 1 iS _ rfl Tryz.underlying23 i1 i2 i3 rfl v1 L.length _ rfl hC4 w6.heap.size [.int .i64 (Y : Int)] rfl HG7.out rfl (one_val _ rfl) (by rw [i4, HLEN.out]; omega) (by rw [HLEN.out]; omega) ?_; intro v' w8 ap; have HO8 := Lib.hid (OL.push hC1 hC2 hC3 hC5 rfl rfl ⟨rfl, wf_small (by omega) (by have := HY.out; omega)⟩ (Nat.le_trans HD7.out.low.size (Nat.le_refl _)) ap); have HRW := Lib.hid hC4; have HAP := Lib.hid ap; have hb8 := ap.kp.bl HD7.out.bl (own_ty hC4 HD7.out.bl (by decide)); have HB8 := Lib.hid hb8; obtain ⟨A8, c8, e8, _⟩ := ap.row.form; subst e8; clear i1 i2 i3 i4 hC1 hC2 hC3 hC4 hC5 ap hb8)
              | ((with_reducible show wpList _ _ _ (⟨none, _, _, _, _, _⟩ :: _) _ _); refine wpList_store1 _ rfl 23 (.tmp 55) (.tmp 54) rfl (sz1 _ (by kernel_rfl) _) gp 3 _ _ (.slice A8 (L.length + 1) c8) rfl rfl HB8.out rfl rfl (by simp) ?_; intro w9 y1 y2 y3; have HD9 := Lib.hid (HD7.out.app1 HRW.out HAP.out HO8.out y1 y2); clear y1 y2 y3))
            go_roundw
            case rel => exact ⟨k + 1, _, _, A9, n9, c9, _, _, by omega, rfl, rfl, rfl, by go_num, HNX, HS9, HD9⟩
            case measure => simp [intOf]; omega
        · obtain rfl : k = N := by omega
          have H4 : Hid (d3S x.body = some (L, r)) := Lib.hid (by rw [H3.out]; exact hws.out)
          obtain ⟨M, r4, k4, e4⟩ : ∃ D r' k, takeS r 1024 = (D, r', k) := ⟨_, _, _, rfl⟩
          have HE4 := Lib.hid e4
          clear e4
          cases k4 with
          | false =>
            have HE : Hid (drecS x = none) := Lib.hid (drec_n4 H4.out HE4.out (fun h => by cases h.1))
            go_wp2_with (first
              | (go_at_call 71; refine (take_any A' n' c' r 1024 (by decide) wx (hbs.out.kept hd.out.low)).mono ?_; rw [HE4.out]; rintro e w6 ⟨A9, n9, c9, rfl, x1, x2⟩; have HDX := Lib.hid (hd.out.kept x2); clear x1 x2)
              | ((with_reducible show wpList _ _ _ (⟨some 71, _, _, _, _, _⟩ :: _) _ _); refine wpList_loadv _ rfl 40 (.tmp 8) rfl 5 (by kernel_rfl) gp 0 _ rfl (BL.all (HDX).out.bl) rfl ?_)
              | ((with_reducible show wpList _ _ _ (⟨none, _, _, _, _, _⟩ :: _) _ _); refine wpList_storev _ rfl 40 (.tmp 6) (.tmp 71) rfl 5 (by kernel_rfl) w.heap.size 0 _ ppZ [.int .i64 x.dev, .int .i64 x.seq, .int .i64 (V : Int), v1, .slice none 0 0] rfl rfl (HDX).out.br rfl (HDX).out.ones (by decide) ?_; intro wz y1 y2 y3; rw [splice_pp ppZ _ (by rfl)] at y1; have HPZ := Lib.hid y1; have HBZ := Lib.hid (low_kp (HDX).out.low y2 (fun i hi e => by have := (HDX).out.hr; omega)); clear y1 y2 y3)
              | fail)
            refine bodyPost_ret (results_at2 _ Tryz.results35 (by kernel_rfl) rfl (BL.all HPZ.out) rfl) rfl ?_
            exact ⟨fun p e => (by rw [HE.out] at e; cases e), fun _ => ⟨_, rfl, rfl, (HDX).out.ones⟩, HBZ.out⟩
          | true =>
            have hM : M ≤ 1024 := by
              obtain ⟨v, k, _, h3, h4⟩ := takeS_some (b := r) (most := 1024) (by decide) (by rw [HE4.out])
              rw [HE4.out] at h4
              have := congrArg Prod.fst h4
              simp only at this
              omega
            by_cases h32 : r4.length = 32 * M
            rotate_left
            · have HE : Hid (drecS x = none) := Lib.hid (drec_n4 H4.out HE4.out (fun h => h32 h.2))
              have HNE := Lib.hid h32
              clear h32
              go_wp2_with (first
                | (go_at_call 71; refine (take_any A' n' c' r 1024 (by decide) wx (hbs.out.kept hd.out.low)).mono ?_; rw [HE4.out]; rintro e w6 ⟨A9, n9, c9, rfl, x1, x2⟩; have HDX := Lib.hid (hd.out.kept x2); have f3 : ((n9 : Int) != 32 * (M : Int)) = true := (by rw [bne_iff_ne]; have h7 := HNE.out; have h8 : r4.length = n9 := (x1 w hbs.out).1; omega); clear x1 x2)
                | ((with_reducible show wpList _ _ _ (⟨some 71, _, _, _, _, _⟩ :: _) _ _); refine wpList_loadv _ rfl 40 (.tmp 8) rfl 5 (by kernel_rfl) gp 0 _ rfl (BL.all (HDX).out.bl) rfl ?_)
                | ((with_reducible show wpList _ _ _ (⟨none, _, _, _, _, _⟩ :: _) _ _); refine wpList_storev _ rfl 40 (.tmp 6) (.tmp 71) rfl 5 (by kernel_rfl) w.heap.size 0 _ ppZ [.int .i64 x.dev, .int .i64 x.seq, .int .i64 (V : Int), v1, .slice none 0 0] rfl rfl (HDX).out.br rfl (HDX).out.ones (by decide) ?_; intro wz y1 y2 y3; rw [splice_pp ppZ _ (by rfl)] at y1; have HPZ := Lib.hid y1; have HBZ := Lib.hid (low_kp (HDX).out.low y2 (fun i hi e => by have := (HDX).out.hr; omega)); clear y1 y2 y3)
                | fail)
              refine bodyPost_ret (results_at2 _ Tryz.results35 (by kernel_rfl) rfl (BL.all HPZ.out) rfl) rfl ?_
              exact ⟨fun p e => (by rw [HE.out] at e; cases e), fun _ => ⟨_, rfl, rfl, (HDX).out.ones⟩, HBZ.out⟩
            have HL4 := Lib.hid h32
            clear h32
            go_wp2_with (first
              | (go_at_call 71; refine (take_any A' n' c' r 1024 (by decide) wx (hbs.out.kept hd.out.low)).mono ?_; rw [HE4.out]; rintro e w6 ⟨A9, n9, c9, rfl, x1, x2⟩; have HDX := Lib.hid (hd.out.kept x2); have HS9 := Lib.hid (x1 w hbs.out); have f3 : ((n9 : Int) != 32 * (M : Int)) = false := (by rw [bne_eq_false_iff_eq]; have h7 := HL4.out; have h8 : r4.length = n9 := (x1 w hbs.out).1; omega); clear x1 x2))
            have HN9 : Hid (n9 = 32 * M) := Lib.hid (by have h8 : r4.length = n9 := HS9.out.1; have := HL4.out; omega)
            have HC9 : Hid (n9 ≤ c9) := Lib.hid HS9.out.2.1
            clear f3 hd
            go_loopw [13] (fun iv wr => ∃ (j : Nat) (v2 : Value), j ≤ M ∧ iv = .int .i64 (j : Int) ∧ Hid (DG w wr w.heap.size gp x.dev x.seq (V : Int) v1 v2 L (ssS r4 j))) (fun iv _ => M - (intOf iv).toNat)
            case atStart => exact ⟨0, _, by omega, rfl, HDX⟩
            case round =>
              obtain ⟨j, v2, hj, rfl, hd⟩ := hrel
              obtain ⟨wy, hwy⟩ : ∃ x, x = wr := ⟨_, rfl⟩
              rw [← hwy] at hd ⊢
              clear hwy
              by_cases hjm : j < M
              · have HSC : Hid (∀ W, Below w.heap.size w W → BS W (cutA A9 c9 (32 * j)) 32 (c9 - 32 * j) ((r4.drop (32 * j)).take 32)) := Lib.hid (fun W hW => by
                  have h1 := ((HS9.out.kept hW).pre (show 32 * j + 32 ≤ n9 by have := HN9.out; omega)).cut (show 32 * j ≤ 32 * j + 32 by omega)
                  rw [List.drop_take, show 32 * j + 32 - 32 * j = 32 by omega] at h1
                  exact ⟨h1.1, by have := h1.2.1; have := HN9.out; have := HC9.out; omega, h1.2.2⟩)
                obtain ⟨Y, hY⟩ : ∃ Y, Y = (r4.drop (32 * j)).take 32 := ⟨_, rfl⟩
                rw [← hY] at HSC
                have HY := Lib.hid hY
                have HYL : Hid (Y.length ≤ reachBytes) := Lib.hid (by rw [hY, List.length_take]; exact Nat.le_trans (Nat.min_le_left _ _) (by decide))
                have hw1 : IntKind.i64.wrap (32 * (j : Int)) = 32 * (j : Int) := IntWalk.i64_in _ (by omega)
                have hw2 : IntKind.i64.wrap (32 * (j : Int) + 32) = 32 * (j : Int) + 32 := IntWalk.i64_in _ (by omega)
                clear hY
                go_wp2_with fail
                refine Text.wp_region_text (fun w' => w'.cell? ⟨gp, 4, none⟩ = some v2) [(0, 4), (2, 4), (3, 4), (4, 4), (5, 4), (6, 4), (7, 4), (1, 0), (8, 0), (9, 1), (10, 2), (11, 2), (12, 4), (13, 3)] (by kernel_rfl) (by kernel_rfl) (fun _ _ _ _ _ h => h) (hd.out.bl.get (j := 4) rfl) ?_
                iterate 7 (refine Text.purek rfl rfl (fun K hK => ⟨_, fun w' => by go_simp <;> rfl, ?_⟩); go_simp; refine hK _ ?_; clear hK K)
                (refine Text.heldk rfl rfl (fun K hK => ⟨_, fun w' hw' => by go_simp <;> rfl, ?_⟩); go_simp; refine hK _ ?_; clear hK K)
                refine Text.heldk rfl rfl (fun K hK => ?_)
                refine ⟨_, fun w' _ => exec_subS (.tmp 79) (.tmp 81) (.tmp 84) 31 5 rfl Tryz.underlying31 (by kernel_rfl) A9 n9 c9 (32 * j) (32 * j + 32) rfl (by go_simp) (by go_simp) (by omega) (by have := HN9.out; omega) HC9.out, ?_⟩
                go_simp
                refine hK _ ?_
                clear hK K
                have hcs := conv_str (HSC.out _ hd.out.low.drew)
                (refine Text.readk rfl rfl (fun K hK => ⟨_, by go_simp <;> rfl, ?_⟩); go_simp; refine hK _ ?_; clear hK K)
                refine Text.eff rfl rfl (fun K hK => ?_)
                refine wp_bslice 27 9 1 _ rfl #[(0, .string (strB Y))] (by rw [List.map_toArray]; rfl) [.string (strB Y)] (bslStr _ _) ?_
                intro w7 y1 y2 y3
                have HD7 := Lib.hid ((hd.out.kept (Below.refl _ _).drew).kept y2)
                have HG7 := Lib.hid y1
                clear y1 y2 y3
                refine hK _ _ (HD7.out.bl.get (j := 4) rfl) ?_
                clear hK K hcs
                refine Text.eff rfl rfl (fun K hK => ?_)
                obtain ⟨iS, i1, i2, i3, i4⟩ := info_some infoStr
                obtain ⟨css, hC1, hC2, hC3, hC4, hC5⟩ := HD7.out.o2
                refine wp_appRW _ (.tmp 78) (.tmp 87) 27 9 1 iS _ rfl Tryz.underlying27 i1 i2 i3 rfl v2 (ssS r4 j).length _ rfl hC4 wy.heap.size [.string (strB Y)] rfl HG7.out rfl (one_val _ rfl) (by rw [i4, ssS_len]; omega) (by rw [ssS_len]; omega) ?_
                intro v' w8 ap
                have HO8 := Lib.hid (OL.push hC1 hC2 hC3 hC5 rfl rfl ⟨rfl, HYL.out⟩ (Nat.le_trans HD7.out.low.size (Nat.le_refl _)) ap)
                have HRW := Lib.hid hC4
                have HAP := Lib.hid ap
                have HB8 := Lib.hid (ap.kp.bl HD7.out.bl (own_ty hC4 HD7.out.bl (by decide)))
                obtain ⟨A8, c8, e8, _⟩ := ap.row.form
                subst e8
                refine hK _ _ (HB8.out.get (j := 4) rfl) ?_
                clear hK K i1 i2 i3 i4 hC1 hC2 hC3 hC4 hC5 ap
                (refine Text.purek rfl rfl (fun K hK => ⟨_, fun w' => by go_simp <;> rfl, ?_⟩); go_simp; refine hK _ ?_; clear hK K)
                refine Text.last rfl rfl (fun K hK => ?_)
                refine wp_store1 _ 27 (.tmp 89) (.tmp 88) rfl (sz1 _ (by kernel_rfl) _) gp 4 _ _ (.slice A8 ((ssS r4 j).length + 1) c8) rfl rfl HB8.out rfl rfl (by simp) ?_
                intro w9 y1 y2 y3
                have HD9 := Lib.hid (HD7.out.app2 HRW.out HAP.out HO8.out y1 y2)
                clear y1 y2 y3
                refine hK _ _ ?_
                clear hK K
                refine Text.done ?_
                go_wp2_with fail
                go_roundw
                case rel => exact ⟨j + 1, _, by omega, by go_num, Lib.hid (by rw [ssS_step, ← HY.out]; exact HD9.out)⟩
                case measure => simp [intOf]; omega
              · obtain rfl : j = M := by omega
                have HLL : Hid (L.length ≤ 3) := Lib.hid (by rw [HLEN.out]; omega)
                obtain ⟨B1, d1, e1, hl1⟩ := hd.out.o1.ls stay_int hd.out.low (b := 8) (by have := HLL.out; unfold lim; omega)
                obtain ⟨B2, d2, e2, hl2⟩ := hd.out.o2.ls stay_str hd.out.low (b := 16) (by rw [ssS_len]; unfold lim; omega)
                obtain ⟨q, hq⟩ : ∃ q : Pp, q = ⟨x.dev, x.seq, (V : Int), L, ssS r4 j⟩ := ⟨_, rfl⟩
                have HFIN : Hid (drecS x = if validB q = true then some q else none) := Lib.hid (by rw [hq, drec_y (by rw [HD1.out]) (by rw [HD2.out]) H4.out HE4.out HL4.out, HD1.out])
                have HPP : Hid (rPpT wy [.int .i64 x.dev, .int .i64 x.seq, .int .i64 (V : Int), v1, v2] q) := Lib.hid (by
                  rw [hq]
                  refine ⟨⟨B1, _, d1, B2, _, d2, by rw [e1, e2], hl1, hl2, HW1.out, HW2.out, wf_small (by show (0 : Int) ≤ (V : Int); omega) (by show ((V : Nat) : Int) < 1000000; have := HV11.out; omega)⟩, fun A9 n9 c9 hm a ha => ?_⟩
                  simp only [List.mem_cons, List.not_mem_nil, or_false, reduceCtorEq, false_or] at hm
                  rcases hm with hm | hm
                  · obtain ⟨l, hl⟩ := hd.out.o1.ty hm.symm ha
                    exact ⟨_, l, hl, .inl rfl⟩
                  · obtain ⟨l, hl⟩ := hd.out.o2.ty hm.symm ha
                    exact ⟨_, l, hl, .inr rfl⟩)
                clear e1 e2 hl1 hl2 hq
                go_wp2_with fail
                refine Text.wp_region_text (fun w' => BL w' gp 40 [.int .i64 x.dev, .int .i64 x.seq, .int .i64 (V : Int), v1, v2]) [(0, 0), (1, 0), (2, 2), (3, 2), (4, 4)] (by kernel_rfl) (by kernel_rfl) (fun _ _ _ _ _ h => h) (hd.out.bl.drew) ?_
                refine Text.heldk rfl rfl (fun K hK => ?_)
                refine ⟨_, fun w' hw' => exec_loadv 40 (.tmp 8) rfl 5 (by kernel_rfl) gp 0 _ rfl (BL.all hw') rfl, ?_⟩
                go_simp
                refine hK _ ?_
                clear hK K
                refine Text.heldk rfl rfl (fun K hK => ?_)
                refine ⟨_, fun w' hw' => exec_loadv 40 (.tmp 8) rfl 5 (by kernel_rfl) gp 0 _ rfl (BL.all hw') rfl, ?_⟩
                go_simp
                refine hK _ ?_
                clear hK K
                refine Text.eff rfl rfl (fun K hK => ?_)
                go_simp
                refine (rvalid_any _ q _ (stay_pp _ _ _ _ HPP.out.1 (Below.refl _ _).drew)).mono ?_
                rintro e w6 ⟨rfl, b6⟩
                have HD6 := Lib.hid ((hd.out.kept (Below.refl _ _).drew).kept b6)
                have HP6 := Lib.hid (stay_ppt _ _ _ _ HPP.out (below_then (Below.refl _ _).drew b6))
                refine hK _ _ HD6.out.bl ?_
                clear hK K b6
                refine Text.eff rfl rfl (fun K hK => ?_)
                refine wp_storev 40 (.tmp 6) (.tmp 90) rfl 5 (by kernel_rfl) w.heap.size 0 _ ppZ _ rfl rfl HD6.out.br rfl HD6.out.ones (by decide) ?_
                intro wz y1 y2 y3
                rw [splice_pp ppZ _ (by rfl)] at y1
                have HPZ := Lib.hid y1
                have HBZ := Lib.hid (low_kp HD6.out.low y2 (fun i hi e => by have := HD6.out.hr; omega))
                have HPW := Lib.hid (HP6.out.kp y2 (fun i t l hl ht => hl.ne HD6.out.br (by rcases ht with rfl | rfl <;> decide)))
                refine hK _ _ (y2.bl HD6.out.bl (fun e => HD6.out.ne e.symm)) ?_
                clear hK K y1 y2 y3
                (refine Text.purek rfl rfl (fun K hK => ⟨_, fun w' => by go_simp <;> rfl, ?_⟩); go_simp; refine hK _ ?_; clear hK K)
                refine Text.done ?_
                go_wp2_with fail
                refine bodyPost_ret (results_at2 _ Tryz.results35 (by kernel_rfl) rfl (BL.all HPZ.out) rfl) rfl ?_
                cases hv : validB q with
                | true =>
                  refine ⟨fun p e => ?_, fun e => ?_, HBZ.out⟩
                  · rw [HFIN.out, if_pos hv] at e
                    cases e
                    exact ⟨_, rfl, HPW.out⟩
                  · rw [HFIN.out, if_pos hv] at e; cases e
                | false =>
                  refine ⟨fun p e => ?_, fun e => ⟨_, rfl, rfl, HD6.out.ones⟩, HBZ.out⟩
                  rw [HFIN.out, if_neg (by rw [hv]; decide)] at e; cases e
end Go.Proofs.YtfonbliomokffaaGreat
