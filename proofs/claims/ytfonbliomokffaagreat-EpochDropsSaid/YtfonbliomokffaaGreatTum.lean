/- The reference's Counting. -/
import Derived.Test.YtfonbliomokffaaGreatAdm
import Derived.Test.YtfonbliomokffaaGreatTpm
namespace Go.Proofs.YtfonbliomokffaaGreat
open Go Go.RowKit Gf Sha

theorem ltE_irr (x : En) : ltE x x = false := by rw [← Bool.not_eq_true, ltE_iff]; omega
theorem ltE_asym {x y : En} (h : ltE x y = true) : ltE y x = false := by rw [← Bool.not_eq_true, ltE_iff]; rw [ltE_iff] at h; omega
theorem takeW_at {α : Type} {p : α → Bool} : ∀ {l : List α} {k : Nat}, (∀ y ∈ l.take k, p y = true) → (∀ y ∈ l.drop k, p y = false) → l.takeWhile p = l.take k ∧ l.dropWhile p = l.drop k
  | [], k, _, _ => by simp
  | a :: l, 0, _, h2 => by
    have := h2 a (by simp)
    simp [this]
  | a :: l, k + 1, h1, h2 => by
    have ha := h1 a (by simp)
    obtain ⟨e1, e2⟩ := takeW_at (l := l) (k := k) (fun y hy => h1 y (by simp [hy])) (fun y hy => h2 y (by simpa using hy))
    simp [ha, e1, e2]
theorem insE_at {out : List En} {x : En} {k : Nat} (h1 : ∀ y ∈ out.take k, ltE y x = true) (h2 : ∀ y ∈ out.drop k, ltE x y = true) : insE out x = out.take k ++ x :: out.drop k := by
  have hn : ¬ (out.any fun y => keyE y == keyE x) = true := by
    intro h
    obtain ⟨y, hy, e⟩ := List.any_eq_true.1 h
    have e1 : y.dev = x.dev := congrArg Prod.fst (beq_iff_eq.1 e)
    have e2 : y.seq = x.seq := congrArg Prod.snd (beq_iff_eq.1 e)
    rw [← List.take_append_drop k out] at hy
    rcases List.mem_append.1 hy with h | h
    · have := h1 y h; rw [ltE_iff] at this; omega
    · have := h2 y h; rw [ltE_iff] at this; omega
  obtain ⟨e1, e2⟩ := takeW_at (p := fun y => ltE y x) (l := out) (k := k) h1 (fun y hy => ltE_asym (h2 y hy))
  unfold insE
  rw [if_neg hn, e1, e2]
theorem insE_in {out : List En} {x y : En} (hy : y ∈ out) (h1 : y.dev = x.dev) (h2 : y.seq = x.seq) : insE out x = out := by
  unfold insE
  rw [if_pos (List.any_eq_true.2 ⟨y, hy, by rw [beq_iff_eq]; exact Prod.ext h1 h2⟩)]
/-- The entry ahead of the place is less: all ahead of it are. -/
theorem low_take {out : List En} (hs : out.Pairwise (fun a b => ltE a b = true)) {x y : En} {j : Nat} (hj : out[j]? = some y) (h : ltE y x = true) : ∀ z ∈ out.take (j + 1), ltE z x = true := by
  intro z hz
  obtain ⟨hl, rfl⟩ := List.getElem?_eq_some_iff.1 hj
  obtain ⟨i, hi, rfl⟩ := List.mem_iff_getElem.1 hz
  rw [List.length_take] at hi
  rw [List.getElem_take]
  rcases Nat.lt_or_ge i j with h1 | h1
  · have h2 := List.pairwise_iff_getElem.1 hs i j (by omega) hl h1
    rw [ltE_iff] at h h2 ⊢
    omega
  · have e : i = j := by omega
    subst e
    exact h
theorem drop_more {out : List En} {x y : En} {j : Nat} (hj : out[j]? = some y) (h : ltE x y = true) (h2 : ∀ z ∈ out.drop (j + 1), ltE x z = true) : ∀ z ∈ out.drop j, ltE x z = true := by
  obtain ⟨hl, rfl⟩ := List.getElem?_eq_some_iff.1 hj
  intro z hz
  rw [List.drop_eq_getElem_cons hl] at hz
  rcases List.mem_cons.1 hz with rfl | hz
  · exact h
  · exact h2 z hz
theorem cnt_next {es : List En} {j : Nat} {x : En} (h : es[j]? = some x) : cnt (es.take (j + 1)) = insE (cnt (es.take j)) x := by
  rw [cnt, take_next h, List.foldl_append]; rfl
def cutM (A : Option Addr) (c k m : Nat) : Option Addr := if c = k then A else A.map (·.add (k * m))
section
variable {P : Program} {w : World} {o : Oper} {a : Act}
theorem exec_cutM (s lo : Operand) (ty te : TypeId) (m : Nat) (hop : o.op = .slice ty s (some lo) none none) (hu : P.underlying ty = some (.slice te)) (h2 : (sizeOf te).run P w = .ok m w)
    (A : Option Addr) (n c k : Nat) (hs : a.eval s = .slice A n c) (hlo : a.eval lo = .int .i64 (k : Int)) (hk : k ≤ n) : (execOp a.eval o).run P w = .ok (.value (.slice (cutM A c k m) (n - k) (c - k))) w := by
  unfold execOp
  simp only [hop, Option.map_some, Option.map_none, hs, hlo]
  simp [Instr.sliceAt, Instr.slice, run_underlying hu, Instr.sliceBounds, Instr.sliceBound, asIntOf, hk, h2, Result.andThen]
  rfl
theorem exec_preM (s hi : Operand) (ty te : TypeId) (m : Nat) (hop : o.op = .slice ty s none (some hi) none) (hu : P.underlying ty = some (.slice te)) (h2 : (sizeOf te).run P w = .ok m w)
    (A : Option Addr) (n c k : Nat) (hs : a.eval s = .slice A n c) (hlo : a.eval hi = .int .i64 (k : Int)) (hk : k ≤ n) (hc : n ≤ c) : (execOp a.eval o).run P w = .ok (.value (.slice A k c)) w := by
  unfold execOp
  simp only [hop, Option.map_some, Option.map_none, hs, hlo]
  have h3 : k ≤ c := by omega
  simp [Instr.sliceAt, Instr.slice, run_underlying hu, Instr.sliceBounds, Instr.sliceBound, asIntOf, h3, h2, Result.andThen]
  intro _
  cases A <;> simp [Addr.add]
end
theorem LS.cutM {α : Type} {R : Rdg α} {s b n c : Nat} {w : World} {A : Option Addr} {L : List α} (h : LS R s b w A n c L) {k : Nat} (hk : k ≤ n) : LS R s b w (cutM A c k s) (n - k) (c - k) (L.drop k) := by
  refine ⟨by rw [List.length_drop, h.1], by have := h.2.1; omega, Nat.le_trans (Nat.mul_le_mul_right _ (Nat.sub_le _ _)) h.2.2.1, fun j hj => ?_⟩
  rw [List.length_drop] at hj
  obtain ⟨g', o', cs, e, h1, h2⟩ := h.2.2.2 (k + j) (by omega)
  have hc := h.2.1
  have hl := h.1
  refine ⟨g', o' + k * s, cs, ?_, ?_, ?_⟩
  · unfold Proofs.YtfonbliomokffaaGreat.cutM
    rw [if_neg (by omega), e, Option.map_some, addr_add]
  · rw [Nat.add_assoc, ← Nat.add_mul]; exact h1
  · rw [List.getElem_drop]; exact h2
section
variable {α : Type} {R : Rdg α} {s b m c : Nat} {te t : TypeId} {A : Option Addr} {L M : List α} {P : Program} {w0 : World} (w : World) {o : Oper} {a : Act} {Q : Exit → Act → World → Prop} {K' : Act → World → Prop}
/-- append(r, x...), r a list that is being built; what else stands. -/
theorem wp_appOL2 (sl x : Operand) (i : TypeInfo) (z : Value) (hop : o.op = .call { callee := .builtin .append, args := #[sl, x], argTypes := #[t, t] })
    (ht : P.underlying t = some (.slice te)) (hi : P.info? te = some i) (hz : i.zero = some z) (hs : i.size = s) (hzs : z.cells.size = s) (v : Value) (hv : a.eval sl = v) (ho : OL R s te w0 w v L) (hb : Below w0.heap.size w0 w)
    (hx : a.eval x = .slice A m c) (hM : LS R s b w0 A m c M) (hlen : ∀ cs x, R w0 cs x → cs.length = s) (hone : ∀ cs x, R w0 cs x → ∀ u ∈ cs, u.oneCell' = true) (hsz : (L.length + m) * i.bytes ≤ 140737488355328) (hn : L.length + m ≤ 140737488355328)
    (hK : ∀ v' w', OL R s te w0 w' v' (L ++ M) → Below w0.heap.size w0 w' → Kp (fun i => v.ownBlock = some i) w w' → K' (a.put o.dst v') w') : o.wp P a w K' Q := by
  obtain ⟨css, h1, h2, h3, h4, h5⟩ := ho
  obtain ⟨dss, k1, k2, k3, k4⟩ := hM.src hlen hone ht
  refine wp_appX w sl x t te s i z hop ht hi hz hs hzs v L.length css.flatten hv h4 _ m dss.flatten hx (k4 w hb) hsz hn (fun v' w' ap => hK v' w' ?_ ?_ ap.kp)
  · exact OL.app h1 h2 h3 h5 rfl k1 k2 k3 hM.1 hb.size ap
  · exact low_kp hb ap.kp (fun j hj e => by have := h5 j e; omega)
end
theorem bslEn1 (x : En) (A : Option Addr) (n c : Nat) (w : World) : (Instr.buildSlice 22 1 #[(0, .agg (enC x A n c).toArray)]).run Tryz.prog w = .ok (.slice (some ⟨w.heap.size, 0, none⟩) 1 1) (w.alloc (.cells (enC x A n c).toArray 33)) := by kernel_rfl
theorem szEn (w : World) : (sizeOf 33).run Tryz.prog w = .ok 6 w := agg_size w (show Agg Tryz.prog 33 6 = true by kernel_rfl)
set_option maxRecDepth 100000 in
set_option maxHeartbeats 8000000 in
theorem rcounting_any (A : Option Addr) (n c : Nat) (es : List En) (w : World) (h : LS rEn 6 72 w A n c es) (hn30 : n ≤ 10000) :
    Calls Tryz.prog 83 #[.slice A n c] w fun e w' => ∃ A' c', e = .returned (.slice A' (cnt es).length c') ∧ LS rEn 6 72 w' A' (cnt es).length c' (cnt es) ∧ Below w.heap.size w w' := by
  have hn := h.len_le
  have H := Lib.hid h
  have HL := Lib.hid h.1
  have HN30 := Lib.hid hn30
  clear h hn30
  go_enter Tryz.func83, Tryz.ntmps83
  go_wp2_with fail
  go_loopw [3, 9] (fun ov iv wr => ∃ (j : Nat) (v : Value), j ≤ n ∧ iv = .int .i64 (j : Int) ∧ v = ov ∧ Hid (∃ A1 c1, v = .slice A1 (cnt (es.take j)).length c1 ∧ LS rEn 6 72 wr A1 (cnt (es.take j)).length c1 (cnt (es.take j))) ∧ Hid (Below w.heap.size w wr)) (fun _ iv _ => n - (intOf iv).toNat)
  case atStart => exact ⟨0, _, by omega, rfl, rfl, Lib.hid ⟨none, 0, rfl, LS.nil⟩, Lib.hid (Below.refl _ _)⟩
  case round =>
    obtain ⟨j, v, hj, rfl, rfl, hv, hb⟩ := hrel
    obtain ⟨wx, hwx⟩ : ∃ x, x = wr := ⟨_, rfl⟩
    rw [← hwx] at hv hb ⊢
    clear hwx
    obtain ⟨out, hout⟩ : ∃ x, x = cnt (es.take j) := ⟨_, rfl⟩
    have HOD := Lib.hid hout
    have hv1 := hv.out
    rw [← hout] at hv1
    obtain ⟨A1, c1, rfl, hls⟩ := hv1
    have HSRT : Hid (out.Pairwise (fun a b => ltE a b = true)) := Lib.hid (by rw [hout]; exact cnt_sorted _)
    obtain ⟨N, hN⟩ : ∃ n, n = out.length := ⟨_, rfl⟩
    have hN9 : N ≤ 10000 := by
      rw [hN, hout]
      have h1 := cnt_len (es.take j)
      have h2 := HN30.out
      rw [List.length_take] at h1
      have h3 := HL.out
      omega
    rw [← hN] at hls ⊢
    have HOUT := Lib.hid hls
    have HOL : Hid (out.length = N) := Lib.hid hN.symm
    have HSZ : Hid (N ≤ 10000) := Lib.hid hN9
    clear hv hout hN hls
    by_cases hlt : j < n
    · obtain ⟨x, g, o, cs, hs, ea, hat, hr⟩ := H.out.at_ stay_en hb.out hlt
      have HRX := Lib.hid hr
      obtain ⟨AB, m, d, rfl, _⟩ := hr
      have HX := Lib.hid hs
      have HA := Lib.hid hat
      have HNX : Hid (cnt (es.take (j + 1)) = insE out x) := Lib.hid (by rw [cnt_next hs, HOD.out])
      subst ea
      clear hs hat
      go_wp2_with (first
        | ((with_reducible show wpList _ _ _ (⟨some 12, _, _, _, _, _⟩ :: _) _ _); refine wpList_loadv _ rfl 33 (.tmp 11) rfl 6 (by kernel_rfl) g (o + j * 6) (enC x AB m d) (by go_simp) HA.out rfl ?_)
        | ((with_reducible show wpList _ _ _ (⟨some 5, _, _, _, _, _⟩ :: _) _ _); refine wpList_alloc _ rfl 33 rfl enZ enZero ?_; intro w3 a1 a2 a3; have HV3 := Lib.hid a1; have HX3 := Lib.hid a2; clear a1 a2 a3)
        | ((with_reducible show wpList _ _ _ (⟨none, _, _, _, _, _⟩ :: _) _ _); refine wpList_storev _ rfl 33 (.tmp 5) (.tmp 12) rfl 6 (by kernel_rfl) wx.heap.size 0 _ enZ (enC x AB m d) rfl rfl HV3.out rfl (one_en x AB m d) (by decide) ?_; intro w4 a1 a2 a3; have HV4 : Hid (BL w4 wx.heap.size 33 (enC x AB m d)) := Lib.hid a1; have HX4 : Hid (Below wx.heap.size wx w4) := Lib.hid (low_kp HX3.out a2 (fun i hi e => by omega)); clear a1 a2 a3))
      go_loopw [6] (fun kv wr => ∃ k : Nat, k ≤ N ∧ kv = .int .i64 (k : Int) ∧ Hid (∀ y ∈ out.drop k, ltE x y = true) ∧ Hid (Below w4.heap.size w4 wr)) (fun kv _ => (intOf kv).toNat)
      case atStart => exact ⟨N, by omega, rfl, Lib.hid (fun y hy => by rw [List.drop_eq_nil_of_le (by rw [HOL.out]; exact Nat.le_refl _)] at hy; cases hy), Lib.hid (Below.refl _ _)⟩
      case round =>
        obtain ⟨k, hk, rfl, hall, hb4⟩ := hrel
        obtain ⟨wy, hwy⟩ : ∃ x, x = wr := ⟨_, rfl⟩
        rw [← hwy] at hb4 ⊢
        clear hwy
        have HXy : Hid (Below wx.heap.size wx wy) := Lib.hid (below_then HX4.out hb4.out)
        have HVy : Hid (BL wy wx.heap.size 33 (enC x AB m d)) := Lib.hid (HV4.out.kept hb4.out)
        have p0 := HVy.out.get (j := 0) rfl
        have p1 := HVy.out.get (j := 1) rfl
        by_cases hp : 0 < k
        rotate_left
        · have HINS : Hid (insE out x = out.take k ++ x :: out.drop k) := Lib.hid (insE_at (fun y hy => by rw [show k = 0 by omega] at hy; simp at hy) hall.out)
          have f0 : decide (0 < k) = false := decide_eq_false hp
          have f0' : decide ((0 : Int) < (k : Int)) = false := decide_eq_false (by omega)
          clear hp
          go_wp2_with fail
          refine Text.wp_region_text (fun _ => True) [(0, 4), (1, 4), (2, 4), (3, 4), (4, 4), (5, 4), (6, 4), (7, 4), (8, 4), (9, 4), (10, 4), (11, 4), (12, 4), (13, 4), (14, 4), (15, 4), (16, 4), (17, 4), (18, 4), (19, 4), (20, 4), (21, 4), (22, 4), (23, 4), (24, 4), (25, 4), (26, 4), (27, 4), (28, 4), (29, 4), (30, 4), (31, 4), (32, 4), (33, 4), (34, 4)] (by kernel_rfl) (by kernel_rfl) (fun _ _ _ _ _ h => h) (trivial) ?_
          iterate 3 (refine Text.purek rfl rfl (fun K hK => ⟨_, fun w' => by go_simp <;> rfl, ?_⟩); go_simp; refine hK _ ?_; clear hK K)
          iterate 31 (refine Text.skipk (.inr (.inr rfl)) rfl rfl (fun K hK => ?_); go_simp; refine hK _ ?_; clear hK K)
          (refine Text.purek rfl rfl (fun K hK => ⟨_, fun w' => by go_simp <;> rfl, ?_⟩); go_simp; refine hK _ ?_; clear hK K)
          refine Text.done ?_
          go_wp2_with fail
          refine Text.wp_region_text (fun _ => True) [(0, 4), (1, 4), (2, 4), (3, 4), (4, 4), (5, 4), (6, 4), (7, 4), (8, 4), (9, 4), (10, 4), (11, 4), (12, 4), (13, 4), (14, 4), (15, 4), (16, 4), (17, 4), (18, 4), (19, 4), (20, 4), (21, 4), (22, 4), (23, 4)] (by kernel_rfl) (by kernel_rfl) (fun _ _ _ _ _ h => h) (trivial) ?_
          iterate 3 (refine Text.purek rfl rfl (fun K hK => ⟨_, fun w' => by go_simp <;> rfl, ?_⟩); go_simp; refine hK _ ?_; clear hK K)
          iterate 9 (refine Text.skipk (.inr (.inr rfl)) rfl rfl (fun K hK => ?_); go_simp; refine hK _ ?_; clear hK K)
          iterate 2 (refine Text.purek rfl rfl (fun K hK => ⟨_, fun w' => by go_simp <;> rfl, ?_⟩); go_simp; refine hK _ ?_; clear hK K)
          iterate 9 (refine Text.skipk (.inr (.inr rfl)) rfl rfl (fun K hK => ?_); go_simp; refine hK _ ?_; clear hK K)
          (refine Text.purek rfl rfl (fun K hK => ⟨_, fun w' => by go_simp <;> rfl, ?_⟩); go_simp; refine hK _ ?_; clear hK K)
          refine Text.done ?_
          go_wp2_with fail
          have HOb : Hid (LS rEn 6 72 wy.drew.drew A1 N c1 out) := Lib.hid (HOUT.out.kept stay_en HXy.out.drew.drew)
          have HVb : Hid (BL wy.drew.drew wx.heap.size 33 (enC x AB m d)) := Lib.hid (HVy.out.drew.drew)
          have HRb : Hid (rEn wy.drew.drew (enC x AB m d) x) := Lib.hid (stay_en _ _ _ _ HRX.out HXy.out.drew.drew)
          have HBb : Hid (Below w.heap.size w wy.drew.drew) := Lib.hid (below_thenB hb.out hb.out.size HXy.out.drew.drew)
          obtain ⟨wb, hwb⟩ : ∃ z, z = wy.drew.drew := ⟨_, rfl⟩
          rw [← hwb] at HOb HVb HRb HBb ⊢
          clear hwb
          have HP := Lib.hid (HOb.out.pre hk)
          have HC := Lib.hid (HOb.out.cutM hk)
          have HTL : Hid ((out.take k).length = k) := Lib.hid HP.out.1
          have HNC : Hid (N ≤ c1) := Lib.hid HOb.out.2.1
          refine Text.wp_region_bt (fun w' => Below wb.heap.size wb w') (.still 1 4 (.still 2 4 (.still 3 4 (.still 5 0 (.still 8 4 (.still 9 4 (.still 10 4 (.br 0 (.br 4 (.eff 6 (.eff 7 (.eff 11 (.still 12 4 .leaf)))) 6 (.eff 4 (.eff 7 (.eff 11 (.still 12 4 .leaf))))) 6 (.eff 0 (.eff 4 (.eff 7 (.eff 11 (.still 12 4 .leaf))))))))))))) (by kernel_rfl) (by kernel_rfl) (fun _ _ _ _ _ h => h) ((Below.refl _ _).drew) ?_
          iterate 2 (refine Text.bpurek rfl rfl (fun K hK => ⟨_, fun w' => by go_simp <;> rfl, ?_⟩); go_simp; refine hK _ ?_; clear hK K)
          refine Text.bpurek rfl rfl (fun K hK => ⟨_, fun w' => exec_preM (.tmp 77) (.tmp 78) 22 33 6 rfl Tryz.underlying22 (szEn _) _ N c1 k rfl (by go_simp) hk HNC.out, ?_⟩)
          go_simp
          refine hK _ ?_
          clear hK K
          refine Text.bheldk rfl rfl (fun K hK => ⟨_, fun w' hw' => exec_loadv 33 (.tmp 5) rfl 6 (by kernel_rfl) wx.heap.size 0 (enC x AB m d) rfl (BL.all (HVb.out.kept hw')) rfl, ?_⟩)
          go_simp
          refine hK _ ?_
          clear hK K
          iterate 2 (refine Text.bpurek rfl rfl (fun K hK => ⟨_, fun w' => by go_simp <;> rfl, ?_⟩); go_simp; refine hK _ ?_; clear hK K)
          refine Text.bpurek rfl rfl (fun K hK => ⟨_, fun w' => exec_cutM (.tmp 84) (.tmp 85) 22 33 6 rfl Tryz.underlying22 (szEn _) _ N c1 k rfl (by go_simp) hk, ?_⟩)
          go_simp
          refine hK _ ?_
          clear hK K
          have HX0 : Hid (Below wb.heap.size wb wb.drew) := Lib.hid (Below.refl _ _).drew
          refine Text.bfork ?_ ?_
          · refine Text.beff rfl rfl (fun K hK => ?_)
            refine wp_bslice 22 33 0 _ rfl #[] (by rw [List.map_toArray]; rfl) [] (bslE0 _) ?_
            intro wa a1 a2 a3
            have HKwa := Lib.hid a2
            have HGwa := Lib.hid a1
            have HXwa : Hid (Below wb.heap.size wb wa) := Lib.hid (below_thenB (HX0).out (by have := (HX0).out.size; exact this) a2)
            have HOwa : Hid (OL rEn 6 33 wb wa (.slice (some ⟨wb.heap.size, 0, none⟩) 0 0) []) := Lib.hid (OL.nil' _ _ a1 (by have := (HX0).out.size; exact this))
            refine hK _ _ HXwa.out ?_
            clear hK K a1 a2 a3
            refine Text.bfork ?_ ?_
            · refine Text.beff rfl rfl (fun K hK => ?_)
              obtain ⟨iS, i1, i2, i3, i4⟩ := info_some infoEn
              refine wp_appOL2 _ (.tmp 76) (.tmp 79) iS _ rfl Tryz.underlying22 i1 i2 i3 rfl _ rfl (HOwa).out (HXwa).out rfl HP.out (fun _ _ h => len_en _ _ h) (fun _ _ h => ones_en _ _ h) (by rw [i4]; have := HSZ.out; simp; omega) (by have := HSZ.out; simp; omega) (fun v4 wc q1 q2 q3 => ?_)
              have HXwc := Lib.hid q2
              have HKP4 := Lib.hid q3
              have HO4 : Hid (OL rEn 6 33 wb wc v4 (out.take k)) := Lib.hid q1
              refine hK _ _ HXwc.out ?_
              clear hK K q1 q2 q3 i1 i2 i3 i4
              refine Text.beff rfl rfl (fun K hK => ?_)
              refine wp_bslice 22 33 1 _ rfl #[(0, .agg (enC x AB m d).toArray)] (by rw [List.map_toArray]; rfl) (enC x AB m d) (bslEn1 _ _ _ _ _) ?_
              intro wd a1 a2 a3
              have HKwd := Lib.hid a2
              have HXwd : Hid (Below wb.heap.size wb wd) := Lib.hid (below_thenB (HXwc).out (by have := (HXwc).out.size; exact this) a2)
              have HGwd := Lib.hid a1
              refine hK _ _ HXwd.out ?_
              clear hK K a1 a2 a3
              have HO5 := Lib.hid (HO4.out.kept HKwd.out)
              obtain ⟨cs4, g1, g2, g3, g4, g5⟩ := (HO5).out
              have HK1 := Lib.hid g1
              have HK2 := Lib.hid g2
              have HK3 := Lib.hid g3
              rw [HTL.out] at g4
              have HK4 := Lib.hid g4
              have HK5 := Lib.hid g5
              clear g1 g2 g3 g4 g5
              refine Text.beff rfl rfl (fun K hK => ?_)
              obtain ⟨iS, i1, i2, i3, i4⟩ := info_some infoEn
              refine wp_appRW _ (.tmp 80) (.tmp 82) 22 33 6 iS _ rfl Tryz.underlying22 i1 i2 i3 rfl v4 k _ rfl HK4.out wc.heap.size (enC x AB m d) rfl (HGwd).out rfl (one_en x AB m d) (by rw [i4]; have := HSZ.out; omega) (by have := HSZ.out; omega) ?_
              intro v7 w7 ap
              have HX7 : Hid (Below wb.heap.size wb w7) := Lib.hid (low_kp (HXwd).out ap.kp (fun i hi e => by have := HK5.out i e; omega))
              have HO7 : Hid (OL rEn 6 33 wb w7 v7 (out.take k ++ [x])) := Lib.hid (OL.push HK1.out HK2.out HK3.out HK5.out HTL.out rfl HRb.out (HXwd).out.size ap)
              refine hK _ _ HX7.out ?_
              clear hK K ap i1 i2 i3 i4
              refine Text.beff rfl rfl (fun K hK => ?_)
              obtain ⟨iS, i1, i2, i3, i4⟩ := info_some infoEn
              refine wp_appOL _ (.tmp 83) (.tmp 86) iS _ rfl Tryz.underlying22 i1 i2 i3 rfl _ rfl HO7.out HX7.out rfl HC.out (fun _ _ h => len_en _ _ h) (fun _ _ h => ones_en _ _ h) (by rw [i4, List.length_append, HTL.out]; have := HSZ.out; simp; omega) (by rw [List.length_append, HTL.out]; have := HSZ.out; simp; omega) (fun v9 w9 q1 q2 => ?_)
              have HX9 := Lib.hid q2
              have HO9 := Lib.hid q1
              refine hK _ _ HX9.out ?_
              clear hK K q1 q2 i1 i2 i3 i4
              (refine Text.bpurek rfl rfl (fun K hK => ⟨_, fun w' => by go_simp <;> rfl, ?_⟩); go_simp; refine hK _ ?_; clear hK K)
              refine Text.bdone ?_
              have HW9 : Hid (∃ A9 c9, v9 = .slice A9 (insE out x).length c9 ∧ LS rEn 6 72 w9 A9 (insE out x).length c9 (insE out x)) := Lib.hid (by
                have e : out.take k ++ [x] ++ out.drop k = insE out x := by rw [HINS.out, List.append_assoc]; rfl
                have ho := HO9.out
                rw [e] at ho
                exact ho.ls (b := 72) stay_en HX9.out (by rw [HINS.out]; have := HSZ.out; have := HOL.out; unfold lim; simp; omega))
              go_wp2_with fail
              go_roundw
              case rel => exact ⟨j + 1, v9, by omega, by go_num, rfl, Lib.hid (by rw [HNX.out]; exact HW9.out), Lib.hid (below_thenB HBb.out HBb.out.size HX9.out)⟩
              case measure => simp [intOf]; omega
            · refine Text.beff rfl rfl (fun K hK => ?_)
              refine wp_bslice 22 33 1 _ rfl #[(0, .agg (enC x AB m d).toArray)] (by rw [List.map_toArray]; rfl) (enC x AB m d) (bslEn1 _ _ _ _ _) ?_
              intro wc a1 a2 a3
              have HKwc := Lib.hid a2
              have HXwc : Hid (Below wb.heap.size wb wc) := Lib.hid (below_thenB (HXwa).out (by have := (HXwa).out.size; exact this) a2)
              have HGwc := Lib.hid a1
              refine hK _ _ HXwc.out ?_
              clear hK K a1 a2 a3
              have HOc := Lib.hid (HOwa.out.kept HKwc.out)
              refine Text.beff rfl rfl (fun K hK => ?_)
              obtain ⟨iS, i1, i2, i3, i4⟩ := info_some infoEn
              refine wp_appOL2 _ (.tmp 76) (.tmp 79) iS _ rfl Tryz.underlying22 i1 i2 i3 rfl _ rfl (HOc).out (HXwc).out rfl HP.out (fun _ _ h => len_en _ _ h) (fun _ _ h => ones_en _ _ h) (by rw [i4]; have := HSZ.out; simp; omega) (by have := HSZ.out; simp; omega) (fun v4 wd q1 q2 q3 => ?_)
              have HXwd := Lib.hid q2
              have HKP4 := Lib.hid q3
              have HO4 : Hid (OL rEn 6 33 wb wd v4 (out.take k)) := Lib.hid q1
              refine hK _ _ HXwd.out ?_
              clear hK K q1 q2 q3 i1 i2 i3 i4
              have HGs := Lib.hid (HGwc.out.kp HKP4.out (fun e => by have e' : wb.heap.size = wa.heap.size := Option.some.inj e; have h7 : wb.heap.size < wa.heap.size := HGwa.out.lt; omega))
              obtain ⟨cs4, g1, g2, g3, g4, g5⟩ := (HO4).out
              have HK1 := Lib.hid g1
              have HK2 := Lib.hid g2
              have HK3 := Lib.hid g3
              rw [HTL.out] at g4
              have HK4 := Lib.hid g4
              have HK5 := Lib.hid g5
              clear g1 g2 g3 g4 g5
              refine Text.beff rfl rfl (fun K hK => ?_)
              obtain ⟨iS, i1, i2, i3, i4⟩ := info_some infoEn
              refine wp_appRW _ (.tmp 80) (.tmp 82) 22 33 6 iS _ rfl Tryz.underlying22 i1 i2 i3 rfl v4 k _ rfl HK4.out wa.heap.size (enC x AB m d) rfl (HGs).out rfl (one_en x AB m d) (by rw [i4]; have := HSZ.out; omega) (by have := HSZ.out; omega) ?_
              intro v7 w7 ap
              have HX7 : Hid (Below wb.heap.size wb w7) := Lib.hid (low_kp (HXwd).out ap.kp (fun i hi e => by have := HK5.out i e; omega))
              have HO7 : Hid (OL rEn 6 33 wb w7 v7 (out.take k ++ [x])) := Lib.hid (OL.push HK1.out HK2.out HK3.out HK5.out HTL.out rfl HRb.out (HXwd).out.size ap)
              refine hK _ _ HX7.out ?_
              clear hK K ap i1 i2 i3 i4
              refine Text.beff rfl rfl (fun K hK => ?_)
              obtain ⟨iS, i1, i2, i3, i4⟩ := info_some infoEn
              refine wp_appOL _ (.tmp 83) (.tmp 86) iS _ rfl Tryz.underlying22 i1 i2 i3 rfl _ rfl HO7.out HX7.out rfl HC.out (fun _ _ h => len_en _ _ h) (fun _ _ h => ones_en _ _ h) (by rw [i4, List.length_append, HTL.out]; have := HSZ.out; simp; omega) (by rw [List.length_append, HTL.out]; have := HSZ.out; simp; omega) (fun v9 w9 q1 q2 => ?_)
              have HX9 := Lib.hid q2
              have HO9 := Lib.hid q1
              refine hK _ _ HX9.out ?_
              clear hK K q1 q2 i1 i2 i3 i4
              (refine Text.bpurek rfl rfl (fun K hK => ⟨_, fun w' => by go_simp <;> rfl, ?_⟩); go_simp; refine hK _ ?_; clear hK K)
              refine Text.bdone ?_
              have HW9 : Hid (∃ A9 c9, v9 = .slice A9 (insE out x).length c9 ∧ LS rEn 6 72 w9 A9 (insE out x).length c9 (insE out x)) := Lib.hid (by
                have e : out.take k ++ [x] ++ out.drop k = insE out x := by rw [HINS.out, List.append_assoc]; rfl
                have ho := HO9.out
                rw [e] at ho
                exact ho.ls (b := 72) stay_en HX9.out (by rw [HINS.out]; have := HSZ.out; have := HOL.out; unfold lim; simp; omega))
              go_wp2_with fail
              go_roundw
              case rel => exact ⟨j + 1, v9, by omega, by go_num, rfl, Lib.hid (by rw [HNX.out]; exact HW9.out), Lib.hid (below_thenB HBb.out HBb.out.size HX9.out)⟩
              case measure => simp [intOf]; omega
          · refine Text.beff rfl rfl (fun K hK => ?_)
            refine wp_bslice 22 33 1 _ rfl #[(0, .agg (enC x AB m d).toArray)] (by rw [List.map_toArray]; rfl) (enC x AB m d) (bslEn1 _ _ _ _ _) ?_
            intro wa a1 a2 a3
            have HKwa := Lib.hid a2
            have HXwa : Hid (Below wb.heap.size wb wa) := Lib.hid (below_thenB (HX0).out (by have := (HX0).out.size; exact this) a2)
            have HGwa := Lib.hid a1
            refine hK _ _ HXwa.out ?_
            clear hK K a1 a2 a3
            refine Text.beff rfl rfl (fun K hK => ?_)
            refine wp_bslice 22 33 0 _ rfl #[] (by rw [List.map_toArray]; rfl) [] (bslE0 _) ?_
            intro wc a1 a2 a3
            have HKwc := Lib.hid a2
            have HGwc := Lib.hid a1
            have HXwc : Hid (Below wb.heap.size wb wc) := Lib.hid (below_thenB (HXwa).out (by have := (HXwa).out.size; exact this) a2)
            have HOwc : Hid (OL rEn 6 33 wb wc (.slice (some ⟨wa.heap.size, 0, none⟩) 0 0) []) := Lib.hid (OL.nil' _ _ a1 (by have := (HXwa).out.size; exact this))
            refine hK _ _ HXwc.out ?_
            clear hK K a1 a2 a3
            have HGa := Lib.hid (HGwa.out.kept HKwc.out)
            refine Text.beff rfl rfl (fun K hK => ?_)
            obtain ⟨iS, i1, i2, i3, i4⟩ := info_some infoEn
            refine wp_appOL2 _ (.tmp 76) (.tmp 79) iS _ rfl Tryz.underlying22 i1 i2 i3 rfl _ rfl (HOwc).out (HXwc).out rfl HP.out (fun _ _ h => len_en _ _ h) (fun _ _ h => ones_en _ _ h) (by rw [i4]; have := HSZ.out; simp; omega) (by have := HSZ.out; simp; omega) (fun v4 wd q1 q2 q3 => ?_)
            have HXwd := Lib.hid q2
            have HKP4 := Lib.hid q3
            have HO4 : Hid (OL rEn 6 33 wb wd v4 (out.take k)) := Lib.hid q1
            refine hK _ _ HXwd.out ?_
            clear hK K q1 q2 q3 i1 i2 i3 i4
            have HGs := Lib.hid (HGa.out.kp HKP4.out (fun e => by have e' : wa.heap.size = wb.heap.size := Option.some.inj e; have h7 : wb.heap.size < wa.heap.size := HGwa.out.lt; omega))
            obtain ⟨cs4, g1, g2, g3, g4, g5⟩ := (HO4).out
            have HK1 := Lib.hid g1
            have HK2 := Lib.hid g2
            have HK3 := Lib.hid g3
            rw [HTL.out] at g4
            have HK4 := Lib.hid g4
            have HK5 := Lib.hid g5
            clear g1 g2 g3 g4 g5
            refine Text.beff rfl rfl (fun K hK => ?_)
            obtain ⟨iS, i1, i2, i3, i4⟩ := info_some infoEn
            refine wp_appRW _ (.tmp 80) (.tmp 82) 22 33 6 iS _ rfl Tryz.underlying22 i1 i2 i3 rfl v4 k _ rfl HK4.out wb.drew.heap.size (enC x AB m d) rfl (HGs).out rfl (one_en x AB m d) (by rw [i4]; have := HSZ.out; omega) (by have := HSZ.out; omega) ?_
            intro v7 w7 ap
            have HX7 : Hid (Below wb.heap.size wb w7) := Lib.hid (low_kp (HXwd).out ap.kp (fun i hi e => by have := HK5.out i e; omega))
            have HO7 : Hid (OL rEn 6 33 wb w7 v7 (out.take k ++ [x])) := Lib.hid (OL.push HK1.out HK2.out HK3.out HK5.out HTL.out rfl HRb.out (HXwd).out.size ap)
            refine hK _ _ HX7.out ?_
            clear hK K ap i1 i2 i3 i4
            refine Text.beff rfl rfl (fun K hK => ?_)
            obtain ⟨iS, i1, i2, i3, i4⟩ := info_some infoEn
            refine wp_appOL _ (.tmp 83) (.tmp 86) iS _ rfl Tryz.underlying22 i1 i2 i3 rfl _ rfl HO7.out HX7.out rfl HC.out (fun _ _ h => len_en _ _ h) (fun _ _ h => ones_en _ _ h) (by rw [i4, List.length_append, HTL.out]; have := HSZ.out; simp; omega) (by rw [List.length_append, HTL.out]; have := HSZ.out; simp; omega) (fun v9 w9 q1 q2 => ?_)
            have HX9 := Lib.hid q2
            have HO9 := Lib.hid q1
            refine hK _ _ HX9.out ?_
            clear hK K q1 q2 i1 i2 i3 i4
            (refine Text.bpurek rfl rfl (fun K hK => ⟨_, fun w' => by go_simp <;> rfl, ?_⟩); go_simp; refine hK _ ?_; clear hK K)
            refine Text.bdone ?_
            have HW9 : Hid (∃ A9 c9, v9 = .slice A9 (insE out x).length c9 ∧ LS rEn 6 72 w9 A9 (insE out x).length c9 (insE out x)) := Lib.hid (by
              have e : out.take k ++ [x] ++ out.drop k = insE out x := by rw [HINS.out, List.append_assoc]; rfl
              have ho := HO9.out
              rw [e] at ho
              exact ho.ls (b := 72) stay_en HX9.out (by rw [HINS.out]; have := HSZ.out; have := HOL.out; unfold lim; simp; omega))
            go_wp2_with fail
            go_roundw
            case rel => exact ⟨j + 1, v9, by omega, by go_num, rfl, Lib.hid (by rw [HNX.out]; exact HW9.out), Lib.hid (below_thenB HBb.out HBb.out.size HX9.out)⟩
            case measure => simp [intOf]; omega
        · obtain ⟨i, hi⟩ : ∃ i, i = k - 1 := ⟨_, rfl⟩
          have hik : i < N := by omega
          have hi1 : (k : Int) - 1 = (i : Int) := by omega
          have hw1 : IntKind.i64.wrap ((k : Int) - 1) = (i : Int) := by rw [IntWalk.i64_in _ (by omega)]; exact hi1
          have hw2 : IntKind.i64.wrap (i : Int) = (i : Int) := IntWalk.i64_in _ (by omega)
          have HIK : Hid (i + 1 = k) := Lib.hid (by omega)
          have f0 : decide (0 < k) = true := decide_eq_true hp
          have f0' : decide ((0 : Int) < (k : Int)) = true := decide_eq_true (by omega)
          obtain ⟨y, g', o', cs', hs', e', hat', hr'⟩ := HOUT.out.at_ stay_en HXy.out hik
          obtain ⟨AB', m', d', rfl, _⟩ := hr'
          have HY := Lib.hid hs'
          have q0 : wy.cell? ⟨g', o' + i * 6, none⟩ = some (.int .i64 y.dev) := hat' 0 _ rfl
          have q1 : wy.cell? ⟨g', o' + i * 6 + 1, none⟩ = some (.int .i64 y.seq) := hat' 1 _ rfl
          subst e'
          clear hs' hat' hi
          by_cases h1 : x.dev < y.dev
          · have f1 : decide (x.dev < y.dev) = true := decide_eq_true h1
            have HALL : Hid (∀ z ∈ out.drop i, ltE x z = true) := Lib.hid (drop_more HY.out (by rw [ltE_iff]; exact .inl h1) (by rw [HIK.out]; exact hall.out))
            clear h1
            go_wp2_with fail
            refine Text.wp_region_text (fun _ => True) [(0, 4), (1, 4), (2, 4), (3, 4), (4, 4), (5, 4), (6, 4), (7, 4), (9, 4), (8, 1), (10, 1), (11, 4), (12, 4), (13, 4), (14, 4), (15, 4), (16, 4), (17, 4), (18, 4), (19, 4), (20, 4), (21, 4), (22, 4), (23, 4), (24, 4), (25, 4), (26, 4), (27, 4), (28, 4), (29, 4), (30, 4), (31, 4), (32, 4), (33, 4), (34, 4)] (by kernel_rfl) (by kernel_rfl) (fun _ _ _ _ _ h => h) (trivial) ?_
            iterate 9 (refine Text.purek rfl rfl (fun K hK => ⟨_, fun w' => by go_simp <;> rfl, ?_⟩); go_simp; refine hK _ ?_; clear hK K)
            iterate 2 (refine Text.readk rfl rfl (fun K hK => ⟨_, by go_simp <;> rfl, ?_⟩); go_simp; refine hK _ ?_; clear hK K)
            iterate 2 (refine Text.purek rfl rfl (fun K hK => ⟨_, fun w' => by go_simp <;> rfl, ?_⟩); go_simp; refine hK _ ?_; clear hK K)
            iterate 20 (refine Text.skipk (.inr (.inr rfl)) rfl rfl (fun K hK => ?_); go_simp; refine hK _ ?_; clear hK K)
            iterate 2 (refine Text.purek rfl rfl (fun K hK => ⟨_, fun w' => by go_simp <;> rfl, ?_⟩); go_simp; refine hK _ ?_; clear hK K)
            refine Text.done ?_
            go_wp2_with fail
            go_roundw
            case rel => exact ⟨i, by omega, by go_num, HALL, Lib.hid hb4.out.drew⟩
            case measure => simp [intOf]; omega
          have f1 : decide (x.dev < y.dev) = false := decide_eq_false h1
          by_cases h2 : y.dev = x.dev
          rotate_left
          · have f2 : (y.dev == x.dev) = false := by rw [beq_eq_false_iff_ne]; exact h2
            have HINS : Hid (insE out x = out.take k ++ x :: out.drop k) := Lib.hid (insE_at (by
              rw [← HIK.out]
              exact low_take HSRT.out HY.out (by rw [ltE_iff]; omega)) hall.out)
            clear h1 h2
            go_wp2_with fail
            refine Text.wp_region_text (fun _ => True) [(0, 4), (1, 4), (2, 4), (3, 4), (4, 4), (5, 4), (6, 4), (7, 4), (9, 4), (8, 1), (10, 1), (11, 4), (12, 4), (13, 4), (14, 4), (15, 4), (16, 4), (17, 4), (19, 4), (18, 1), (20, 1), (21, 4), (22, 4), (23, 4), (24, 4), (25, 4), (26, 4), (27, 4), (28, 4), (29, 4), (30, 4), (31, 4), (32, 4), (33, 4), (34, 4)] (by kernel_rfl) (by kernel_rfl) (fun _ _ _ _ _ h => h) (trivial) ?_
            iterate 9 (refine Text.purek rfl rfl (fun K hK => ⟨_, fun w' => by go_simp <;> rfl, ?_⟩); go_simp; refine hK _ ?_; clear hK K)
            iterate 2 (refine Text.readk rfl rfl (fun K hK => ⟨_, by go_simp <;> rfl, ?_⟩); go_simp; refine hK _ ?_; clear hK K)
            iterate 8 (refine Text.purek rfl rfl (fun K hK => ⟨_, fun w' => by go_simp <;> rfl, ?_⟩); go_simp; refine hK _ ?_; clear hK K)
            iterate 2 (refine Text.readk rfl rfl (fun K hK => ⟨_, by go_simp <;> rfl, ?_⟩); go_simp; refine hK _ ?_; clear hK K)
            iterate 2 (refine Text.purek rfl rfl (fun K hK => ⟨_, fun w' => by go_simp <;> rfl, ?_⟩); go_simp; refine hK _ ?_; clear hK K)
            iterate 9 (refine Text.skipk (.inr (.inr rfl)) rfl rfl (fun K hK => ?_); go_simp; refine hK _ ?_; clear hK K)
            iterate 3 (refine Text.purek rfl rfl (fun K hK => ⟨_, fun w' => by go_simp <;> rfl, ?_⟩); go_simp; refine hK _ ?_; clear hK K)
            refine Text.done ?_
            go_wp2_with fail
            refine Text.wp_region_text (fun _ => True) [(0, 4), (1, 4), (2, 4), (3, 4), (4, 4), (5, 4), (6, 4), (7, 4), (9, 4), (8, 1), (10, 1), (11, 4), (12, 4), (13, 4), (14, 4), (15, 4), (16, 4), (17, 4), (18, 4), (19, 4), (20, 4), (21, 4), (22, 4), (23, 4)] (by kernel_rfl) (by kernel_rfl) (fun _ _ _ _ _ h => h) (trivial) ?_
            iterate 9 (refine Text.purek rfl rfl (fun K hK => ⟨_, fun w' => by go_simp <;> rfl, ?_⟩); go_simp; refine hK _ ?_; clear hK K)
            iterate 2 (refine Text.readk rfl rfl (fun K hK => ⟨_, by go_simp <;> rfl, ?_⟩); go_simp; refine hK _ ?_; clear hK K)
            iterate 3 (refine Text.purek rfl rfl (fun K hK => ⟨_, fun w' => by go_simp <;> rfl, ?_⟩); go_simp; refine hK _ ?_; clear hK K)
            iterate 9 (refine Text.skipk (.inr (.inr rfl)) rfl rfl (fun K hK => ?_); go_simp; refine hK _ ?_; clear hK K)
            (refine Text.purek rfl rfl (fun K hK => ⟨_, fun w' => by go_simp <;> rfl, ?_⟩); go_simp; refine hK _ ?_; clear hK K)
            refine Text.done ?_
            go_wp2_with fail
            have HOb : Hid (LS rEn 6 72 wy.drew.drew (some ⟨g', o', none⟩) N c1 out) := Lib.hid (HOUT.out.kept stay_en HXy.out.drew.drew)
            have HVb : Hid (BL wy.drew.drew wx.heap.size 33 (enC x AB m d)) := Lib.hid (HVy.out.drew.drew)
            have HRb : Hid (rEn wy.drew.drew (enC x AB m d) x) := Lib.hid (stay_en _ _ _ _ HRX.out HXy.out.drew.drew)
            have HBb : Hid (Below w.heap.size w wy.drew.drew) := Lib.hid (below_thenB hb.out hb.out.size HXy.out.drew.drew)
            obtain ⟨wb, hwb⟩ : ∃ z, z = wy.drew.drew := ⟨_, rfl⟩
            rw [← hwb] at HOb HVb HRb HBb ⊢
            clear hwb
            have HP := Lib.hid (HOb.out.pre hk)
            have HC := Lib.hid (HOb.out.cutM hk)
            have HTL : Hid ((out.take k).length = k) := Lib.hid HP.out.1
            have HNC : Hid (N ≤ c1) := Lib.hid HOb.out.2.1
            refine Text.wp_region_bt (fun w' => Below wb.heap.size wb w') (.still 1 4 (.still 2 4 (.still 3 4 (.still 5 0 (.still 8 4 (.still 9 4 (.still 10 4 (.br 0 (.br 4 (.eff 6 (.eff 7 (.eff 11 (.still 12 4 .leaf)))) 6 (.eff 4 (.eff 7 (.eff 11 (.still 12 4 .leaf))))) 6 (.eff 0 (.eff 4 (.eff 7 (.eff 11 (.still 12 4 .leaf))))))))))))) (by kernel_rfl) (by kernel_rfl) (fun _ _ _ _ _ h => h) ((Below.refl _ _).drew) ?_
            iterate 2 (refine Text.bpurek rfl rfl (fun K hK => ⟨_, fun w' => by go_simp <;> rfl, ?_⟩); go_simp; refine hK _ ?_; clear hK K)
            refine Text.bpurek rfl rfl (fun K hK => ⟨_, fun w' => exec_preM (.tmp 77) (.tmp 78) 22 33 6 rfl Tryz.underlying22 (szEn _) _ N c1 k rfl (by go_simp) hk HNC.out, ?_⟩)
            go_simp
            refine hK _ ?_
            clear hK K
            refine Text.bheldk rfl rfl (fun K hK => ⟨_, fun w' hw' => exec_loadv 33 (.tmp 5) rfl 6 (by kernel_rfl) wx.heap.size 0 (enC x AB m d) rfl (BL.all (HVb.out.kept hw')) rfl, ?_⟩)
            go_simp
            refine hK _ ?_
            clear hK K
            iterate 2 (refine Text.bpurek rfl rfl (fun K hK => ⟨_, fun w' => by go_simp <;> rfl, ?_⟩); go_simp; refine hK _ ?_; clear hK K)
            refine Text.bpurek rfl rfl (fun K hK => ⟨_, fun w' => exec_cutM (.tmp 84) (.tmp 85) 22 33 6 rfl Tryz.underlying22 (szEn _) _ N c1 k rfl (by go_simp) hk, ?_⟩)
            go_simp
            refine hK _ ?_
            clear hK K
            have HX0 : Hid (Below wb.heap.size wb wb.drew) := Lib.hid (Below.refl _ _).drew
            refine Text.bfork ?_ ?_
            · refine Text.beff rfl rfl (fun K hK => ?_)
              refine wp_bslice 22 33 0 _ rfl #[] (by rw [List.map_toArray]; rfl) [] (bslE0 _) ?_
              intro wa a1 a2 a3
              have HKwa := Lib.hid a2
              have HGwa := Lib.hid a1
              have HXwa : Hid (Below wb.heap.size wb wa) := Lib.hid (below_thenB (HX0).out (by have := (HX0).out.size; exact this) a2)
              have HOwa : Hid (OL rEn 6 33 wb wa (.slice (some ⟨wb.heap.size, 0, none⟩) 0 0) []) := Lib.hid (OL.nil' _ _ a1 (by have := (HX0).out.size; exact this))
              refine hK _ _ HXwa.out ?_
              clear hK K a1 a2 a3
              refine Text.bfork ?_ ?_
              · refine Text.beff rfl rfl (fun K hK => ?_)
                obtain ⟨iS, i1, i2, i3, i4⟩ := info_some infoEn
                refine wp_appOL2 _ (.tmp 76) (.tmp 79) iS _ rfl Tryz.underlying22 i1 i2 i3 rfl _ rfl (HOwa).out (HXwa).out rfl HP.out (fun _ _ h => len_en _ _ h) (fun _ _ h => ones_en _ _ h) (by rw [i4]; have := HSZ.out; simp; omega) (by have := HSZ.out; simp; omega) (fun v4 wc q1 q2 q3 => ?_)
                have HXwc := Lib.hid q2
                have HKP4 := Lib.hid q3
                have HO4 : Hid (OL rEn 6 33 wb wc v4 (out.take k)) := Lib.hid q1
                refine hK _ _ HXwc.out ?_
                clear hK K q1 q2 q3 i1 i2 i3 i4
                refine Text.beff rfl rfl (fun K hK => ?_)
                refine wp_bslice 22 33 1 _ rfl #[(0, .agg (enC x AB m d).toArray)] (by rw [List.map_toArray]; rfl) (enC x AB m d) (bslEn1 _ _ _ _ _) ?_
                intro wd a1 a2 a3
                have HKwd := Lib.hid a2
                have HXwd : Hid (Below wb.heap.size wb wd) := Lib.hid (below_thenB (HXwc).out (by have := (HXwc).out.size; exact this) a2)
                have HGwd := Lib.hid a1
                refine hK _ _ HXwd.out ?_
                clear hK K a1 a2 a3
                have HO5 := Lib.hid (HO4.out.kept HKwd.out)
                obtain ⟨cs4, g1, g2, g3, g4, g5⟩ := (HO5).out
                have HK1 := Lib.hid g1
                have HK2 := Lib.hid g2
                have HK3 := Lib.hid g3
                rw [HTL.out] at g4
                have HK4 := Lib.hid g4
                have HK5 := Lib.hid g5
                clear g1 g2 g3 g4 g5
                refine Text.beff rfl rfl (fun K hK => ?_)
                obtain ⟨iS, i1, i2, i3, i4⟩ := info_some infoEn
                refine wp_appRW _ (.tmp 80) (.tmp 82) 22 33 6 iS _ rfl Tryz.underlying22 i1 i2 i3 rfl v4 k _ rfl HK4.out wc.heap.size (enC x AB m d) rfl (HGwd).out rfl (one_en x AB m d) (by rw [i4]; have := HSZ.out; omega) (by have := HSZ.out; omega) ?_
                intro v7 w7 ap
                have HX7 : Hid (Below wb.heap.size wb w7) := Lib.hid (low_kp (HXwd).out ap.kp (fun i hi e => by have := HK5.out i e; omega))
                have HO7 : Hid (OL rEn 6 33 wb w7 v7 (out.take k ++ [x])) := Lib.hid (OL.push HK1.out HK2.out HK3.out HK5.out HTL.out rfl HRb.out (HXwd).out.size ap)
                refine hK _ _ HX7.out ?_
                clear hK K ap i1 i2 i3 i4
                refine Text.beff rfl rfl (fun K hK => ?_)
                obtain ⟨iS, i1, i2, i3, i4⟩ := info_some infoEn
                refine wp_appOL _ (.tmp 83) (.tmp 86) iS _ rfl Tryz.underlying22 i1 i2 i3 rfl _ rfl HO7.out HX7.out rfl HC.out (fun _ _ h => len_en _ _ h) (fun _ _ h => ones_en _ _ h) (by rw [i4, List.length_append, HTL.out]; have := HSZ.out; simp; omega) (by rw [List.length_append, HTL.out]; have := HSZ.out; simp; omega) (fun v9 w9 q1 q2 => ?_)
                have HX9 := Lib.hid q2
                have HO9 := Lib.hid q1
                refine hK _ _ HX9.out ?_
                clear hK K q1 q2 i1 i2 i3 i4
                (refine Text.bpurek rfl rfl (fun K hK => ⟨_, fun w' => by go_simp <;> rfl, ?_⟩); go_simp; refine hK _ ?_; clear hK K)
                refine Text.bdone ?_
                have HW9 : Hid (∃ A9 c9, v9 = .slice A9 (insE out x).length c9 ∧ LS rEn 6 72 w9 A9 (insE out x).length c9 (insE out x)) := Lib.hid (by
                  have e : out.take k ++ [x] ++ out.drop k = insE out x := by rw [HINS.out, List.append_assoc]; rfl
                  have ho := HO9.out
                  rw [e] at ho
                  exact ho.ls (b := 72) stay_en HX9.out (by rw [HINS.out]; have := HSZ.out; have := HOL.out; unfold lim; simp; omega))
                go_wp2_with fail
                go_roundw
                case rel => exact ⟨j + 1, v9, by omega, by go_num, rfl, Lib.hid (by rw [HNX.out]; exact HW9.out), Lib.hid (below_thenB HBb.out HBb.out.size HX9.out)⟩
                case measure => simp [intOf]; omega
              · refine Text.beff rfl rfl (fun K hK => ?_)
                refine wp_bslice 22 33 1 _ rfl #[(0, .agg (enC x AB m d).toArray)] (by rw [List.map_toArray]; rfl) (enC x AB m d) (bslEn1 _ _ _ _ _) ?_
                intro wc a1 a2 a3
                have HKwc := Lib.hid a2
                have HXwc : Hid (Below wb.heap.size wb wc) := Lib.hid (below_thenB (HXwa).out (by have := (HXwa).out.size; exact this) a2)
                have HGwc := Lib.hid a1
                refine hK _ _ HXwc.out ?_
                clear hK K a1 a2 a3
                have HOc := Lib.hid (HOwa.out.kept HKwc.out)
                refine Text.beff rfl rfl (fun K hK => ?_)
                obtain ⟨iS, i1, i2, i3, i4⟩ := info_some infoEn
                refine wp_appOL2 _ (.tmp 76) (.tmp 79) iS _ rfl Tryz.underlying22 i1 i2 i3 rfl _ rfl (HOc).out (HXwc).out rfl HP.out (fun _ _ h => len_en _ _ h) (fun _ _ h => ones_en _ _ h) (by rw [i4]; have := HSZ.out; simp; omega) (by have := HSZ.out; simp; omega) (fun v4 wd q1 q2 q3 => ?_)
                have HXwd := Lib.hid q2
                have HKP4 := Lib.hid q3
                have HO4 : Hid (OL rEn 6 33 wb wd v4 (out.take k)) := Lib.hid q1
                refine hK _ _ HXwd.out ?_
                clear hK K q1 q2 q3 i1 i2 i3 i4
                have HGs := Lib.hid (HGwc.out.kp HKP4.out (fun e => by have e' : wb.heap.size = wa.heap.size := Option.some.inj e; have h7 : wb.heap.size < wa.heap.size := HGwa.out.lt; omega))
                obtain ⟨cs4, g1, g2, g3, g4, g5⟩ := (HO4).out
                have HK1 := Lib.hid g1
                have HK2 := Lib.hid g2
                have HK3 := Lib.hid g3
                rw [HTL.out] at g4
                have HK4 := Lib.hid g4
                have HK5 := Lib.hid g5
                clear g1 g2 g3 g4 g5
                refine Text.beff rfl rfl (fun K hK => ?_)
                obtain ⟨iS, i1, i2, i3, i4⟩ := info_some infoEn
                refine wp_appRW _ (.tmp 80) (.tmp 82) 22 33 6 iS _ rfl Tryz.underlying22 i1 i2 i3 rfl v4 k _ rfl HK4.out wa.heap.size (enC x AB m d) rfl (HGs).out rfl (one_en x AB m d) (by rw [i4]; have := HSZ.out; omega) (by have := HSZ.out; omega) ?_
                intro v7 w7 ap
                have HX7 : Hid (Below wb.heap.size wb w7) := Lib.hid (low_kp (HXwd).out ap.kp (fun i hi e => by have := HK5.out i e; omega))
                have HO7 : Hid (OL rEn 6 33 wb w7 v7 (out.take k ++ [x])) := Lib.hid (OL.push HK1.out HK2.out HK3.out HK5.out HTL.out rfl HRb.out (HXwd).out.size ap)
                refine hK _ _ HX7.out ?_
                clear hK K ap i1 i2 i3 i4
                refine Text.beff rfl rfl (fun K hK => ?_)
                obtain ⟨iS, i1, i2, i3, i4⟩ := info_some infoEn
                refine wp_appOL _ (.tmp 83) (.tmp 86) iS _ rfl Tryz.underlying22 i1 i2 i3 rfl _ rfl HO7.out HX7.out rfl HC.out (fun _ _ h => len_en _ _ h) (fun _ _ h => ones_en _ _ h) (by rw [i4, List.length_append, HTL.out]; have := HSZ.out; simp; omega) (by rw [List.length_append, HTL.out]; have := HSZ.out; simp; omega) (fun v9 w9 q1 q2 => ?_)
                have HX9 := Lib.hid q2
                have HO9 := Lib.hid q1
                refine hK _ _ HX9.out ?_
                clear hK K q1 q2 i1 i2 i3 i4
                (refine Text.bpurek rfl rfl (fun K hK => ⟨_, fun w' => by go_simp <;> rfl, ?_⟩); go_simp; refine hK _ ?_; clear hK K)
                refine Text.bdone ?_
                have HW9 : Hid (∃ A9 c9, v9 = .slice A9 (insE out x).length c9 ∧ LS rEn 6 72 w9 A9 (insE out x).length c9 (insE out x)) := Lib.hid (by
                  have e : out.take k ++ [x] ++ out.drop k = insE out x := by rw [HINS.out, List.append_assoc]; rfl
                  have ho := HO9.out
                  rw [e] at ho
                  exact ho.ls (b := 72) stay_en HX9.out (by rw [HINS.out]; have := HSZ.out; have := HOL.out; unfold lim; simp; omega))
                go_wp2_with fail
                go_roundw
                case rel => exact ⟨j + 1, v9, by omega, by go_num, rfl, Lib.hid (by rw [HNX.out]; exact HW9.out), Lib.hid (below_thenB HBb.out HBb.out.size HX9.out)⟩
                case measure => simp [intOf]; omega
            · refine Text.beff rfl rfl (fun K hK => ?_)
              refine wp_bslice 22 33 1 _ rfl #[(0, .agg (enC x AB m d).toArray)] (by rw [List.map_toArray]; rfl) (enC x AB m d) (bslEn1 _ _ _ _ _) ?_
              intro wa a1 a2 a3
              have HKwa := Lib.hid a2
              have HXwa : Hid (Below wb.heap.size wb wa) := Lib.hid (below_thenB (HX0).out (by have := (HX0).out.size; exact this) a2)
              have HGwa := Lib.hid a1
              refine hK _ _ HXwa.out ?_
              clear hK K a1 a2 a3
              refine Text.beff rfl rfl (fun K hK => ?_)
              refine wp_bslice 22 33 0 _ rfl #[] (by rw [List.map_toArray]; rfl) [] (bslE0 _) ?_
              intro wc a1 a2 a3
              have HKwc := Lib.hid a2
              have HGwc := Lib.hid a1
              have HXwc : Hid (Below wb.heap.size wb wc) := Lib.hid (below_thenB (HXwa).out (by have := (HXwa).out.size; exact this) a2)
              have HOwc : Hid (OL rEn 6 33 wb wc (.slice (some ⟨wa.heap.size, 0, none⟩) 0 0) []) := Lib.hid (OL.nil' _ _ a1 (by have := (HXwa).out.size; exact this))
              refine hK _ _ HXwc.out ?_
              clear hK K a1 a2 a3
              have HGa := Lib.hid (HGwa.out.kept HKwc.out)
              refine Text.beff rfl rfl (fun K hK => ?_)
              obtain ⟨iS, i1, i2, i3, i4⟩ := info_some infoEn
              refine wp_appOL2 _ (.tmp 76) (.tmp 79) iS _ rfl Tryz.underlying22 i1 i2 i3 rfl _ rfl (HOwc).out (HXwc).out rfl HP.out (fun _ _ h => len_en _ _ h) (fun _ _ h => ones_en _ _ h) (by rw [i4]; have := HSZ.out; simp; omega) (by have := HSZ.out; simp; omega) (fun v4 wd q1 q2 q3 => ?_)
              have HXwd := Lib.hid q2
              have HKP4 := Lib.hid q3
              have HO4 : Hid (OL rEn 6 33 wb wd v4 (out.take k)) := Lib.hid q1
              refine hK _ _ HXwd.out ?_
              clear hK K q1 q2 q3 i1 i2 i3 i4
              have HGs := Lib.hid (HGa.out.kp HKP4.out (fun e => by have e' : wa.heap.size = wb.heap.size := Option.some.inj e; have h7 : wb.heap.size < wa.heap.size := HGwa.out.lt; omega))
              obtain ⟨cs4, g1, g2, g3, g4, g5⟩ := (HO4).out
              have HK1 := Lib.hid g1
              have HK2 := Lib.hid g2
              have HK3 := Lib.hid g3
              rw [HTL.out] at g4
              have HK4 := Lib.hid g4
              have HK5 := Lib.hid g5
              clear g1 g2 g3 g4 g5
              refine Text.beff rfl rfl (fun K hK => ?_)
              obtain ⟨iS, i1, i2, i3, i4⟩ := info_some infoEn
              refine wp_appRW _ (.tmp 80) (.tmp 82) 22 33 6 iS _ rfl Tryz.underlying22 i1 i2 i3 rfl v4 k _ rfl HK4.out wb.drew.heap.size (enC x AB m d) rfl (HGs).out rfl (one_en x AB m d) (by rw [i4]; have := HSZ.out; omega) (by have := HSZ.out; omega) ?_
              intro v7 w7 ap
              have HX7 : Hid (Below wb.heap.size wb w7) := Lib.hid (low_kp (HXwd).out ap.kp (fun i hi e => by have := HK5.out i e; omega))
              have HO7 : Hid (OL rEn 6 33 wb w7 v7 (out.take k ++ [x])) := Lib.hid (OL.push HK1.out HK2.out HK3.out HK5.out HTL.out rfl HRb.out (HXwd).out.size ap)
              refine hK _ _ HX7.out ?_
              clear hK K ap i1 i2 i3 i4
              refine Text.beff rfl rfl (fun K hK => ?_)
              obtain ⟨iS, i1, i2, i3, i4⟩ := info_some infoEn
              refine wp_appOL _ (.tmp 83) (.tmp 86) iS _ rfl Tryz.underlying22 i1 i2 i3 rfl _ rfl HO7.out HX7.out rfl HC.out (fun _ _ h => len_en _ _ h) (fun _ _ h => ones_en _ _ h) (by rw [i4, List.length_append, HTL.out]; have := HSZ.out; simp; omega) (by rw [List.length_append, HTL.out]; have := HSZ.out; simp; omega) (fun v9 w9 q1 q2 => ?_)
              have HX9 := Lib.hid q2
              have HO9 := Lib.hid q1
              refine hK _ _ HX9.out ?_
              clear hK K q1 q2 i1 i2 i3 i4
              (refine Text.bpurek rfl rfl (fun K hK => ⟨_, fun w' => by go_simp <;> rfl, ?_⟩); go_simp; refine hK _ ?_; clear hK K)
              refine Text.bdone ?_
              have HW9 : Hid (∃ A9 c9, v9 = .slice A9 (insE out x).length c9 ∧ LS rEn 6 72 w9 A9 (insE out x).length c9 (insE out x)) := Lib.hid (by
                have e : out.take k ++ [x] ++ out.drop k = insE out x := by rw [HINS.out, List.append_assoc]; rfl
                have ho := HO9.out
                rw [e] at ho
                exact ho.ls (b := 72) stay_en HX9.out (by rw [HINS.out]; have := HSZ.out; have := HOL.out; unfold lim; simp; omega))
              go_wp2_with fail
              go_roundw
              case rel => exact ⟨j + 1, v9, by omega, by go_num, rfl, Lib.hid (by rw [HNX.out]; exact HW9.out), Lib.hid (below_thenB HBb.out HBb.out.size HX9.out)⟩
              case measure => simp [intOf]; omega
          have f2 : (y.dev == x.dev) = true := by rw [beq_iff_eq]; exact h2
          by_cases h3 : x.seq < y.seq
          · have f3 : decide (x.seq < y.seq) = true := decide_eq_true h3
            have HALL : Hid (∀ z ∈ out.drop i, ltE x z = true) := Lib.hid (drop_more HY.out (by rw [ltE_iff]; exact .inr ⟨h2.symm, h3⟩) (by rw [HIK.out]; exact hall.out))
            clear h1 h2 h3
            go_wp2_with fail
            refine Text.wp_region_text (fun _ => True) [(0, 4), (1, 4), (2, 4), (3, 4), (4, 4), (5, 4), (6, 4), (7, 4), (9, 4), (8, 1), (10, 1), (11, 4), (12, 4), (13, 4), (14, 4), (15, 4), (16, 4), (17, 4), (19, 4), (18, 1), (20, 1), (21, 4), (22, 4), (23, 4), (24, 4), (25, 4), (26, 4), (27, 4), (29, 4), (28, 1), (30, 1), (31, 4), (32, 4), (33, 4), (34, 4)] (by kernel_rfl) (by kernel_rfl) (fun _ _ _ _ _ h => h) (trivial) ?_
            iterate 9 (refine Text.purek rfl rfl (fun K hK => ⟨_, fun w' => by go_simp <;> rfl, ?_⟩); go_simp; refine hK _ ?_; clear hK K)
            iterate 2 (refine Text.readk rfl rfl (fun K hK => ⟨_, by go_simp <;> rfl, ?_⟩); go_simp; refine hK _ ?_; clear hK K)
            iterate 8 (refine Text.purek rfl rfl (fun K hK => ⟨_, fun w' => by go_simp <;> rfl, ?_⟩); go_simp; refine hK _ ?_; clear hK K)
            iterate 2 (refine Text.readk rfl rfl (fun K hK => ⟨_, by go_simp <;> rfl, ?_⟩); go_simp; refine hK _ ?_; clear hK K)
            iterate 8 (refine Text.purek rfl rfl (fun K hK => ⟨_, fun w' => by go_simp <;> rfl, ?_⟩); go_simp; refine hK _ ?_; clear hK K)
            iterate 2 (refine Text.readk rfl rfl (fun K hK => ⟨_, by go_simp <;> rfl, ?_⟩); go_simp; refine hK _ ?_; clear hK K)
            iterate 4 (refine Text.purek rfl rfl (fun K hK => ⟨_, fun w' => by go_simp <;> rfl, ?_⟩); go_simp; refine hK _ ?_; clear hK K)
            refine Text.done ?_
            go_wp2_with fail
            go_roundw
            case rel => exact ⟨i, by omega, by go_num, HALL, Lib.hid hb4.out.drew⟩
            case measure => simp [intOf]; omega
          have f3 : decide (x.seq < y.seq) = false := decide_eq_false h3
          by_cases h4 : y.seq = x.seq
          · have f4 : (y.seq == x.seq) = true := by rw [beq_iff_eq]; exact h4
            have HINS : Hid (insE out x = out) := Lib.hid (insE_in (mem_of HY.out) h2 h4)
            clear h1 h2 h3 h4
            go_wp2_with fail
            refine Text.wp_region_text (fun _ => True) [(0, 4), (1, 4), (2, 4), (3, 4), (4, 4), (5, 4), (6, 4), (7, 4), (9, 4), (8, 1), (10, 1), (11, 4), (12, 4), (13, 4), (14, 4), (15, 4), (16, 4), (17, 4), (19, 4), (18, 1), (20, 1), (21, 4), (22, 4), (23, 4), (24, 4), (25, 4), (26, 4), (27, 4), (29, 4), (28, 1), (30, 1), (31, 4), (32, 4), (33, 4), (34, 4)] (by kernel_rfl) (by kernel_rfl) (fun _ _ _ _ _ h => h) (trivial) ?_
            iterate 9 (refine Text.purek rfl rfl (fun K hK => ⟨_, fun w' => by go_simp <;> rfl, ?_⟩); go_simp; refine hK _ ?_; clear hK K)
            iterate 2 (refine Text.readk rfl rfl (fun K hK => ⟨_, by go_simp <;> rfl, ?_⟩); go_simp; refine hK _ ?_; clear hK K)
            iterate 8 (refine Text.purek rfl rfl (fun K hK => ⟨_, fun w' => by go_simp <;> rfl, ?_⟩); go_simp; refine hK _ ?_; clear hK K)
            iterate 2 (refine Text.readk rfl rfl (fun K hK => ⟨_, by go_simp <;> rfl, ?_⟩); go_simp; refine hK _ ?_; clear hK K)
            iterate 8 (refine Text.purek rfl rfl (fun K hK => ⟨_, fun w' => by go_simp <;> rfl, ?_⟩); go_simp; refine hK _ ?_; clear hK K)
            iterate 2 (refine Text.readk rfl rfl (fun K hK => ⟨_, by go_simp <;> rfl, ?_⟩); go_simp; refine hK _ ?_; clear hK K)
            iterate 4 (refine Text.purek rfl rfl (fun K hK => ⟨_, fun w' => by go_simp <;> rfl, ?_⟩); go_simp; refine hK _ ?_; clear hK K)
            refine Text.done ?_
            go_wp2_with fail
            refine Text.wp_region_text (fun _ => True) [(0, 4), (1, 4), (2, 4), (3, 4), (4, 4), (5, 4), (6, 4), (7, 4), (9, 4), (8, 1), (10, 1), (11, 4), (12, 4), (13, 4), (14, 4), (15, 4), (16, 4), (17, 4), (18, 4), (20, 4), (19, 1), (21, 1), (22, 4), (23, 4)] (by kernel_rfl) (by kernel_rfl) (fun _ _ _ _ _ h => h) (trivial) ?_
            iterate 9 (refine Text.purek rfl rfl (fun K hK => ⟨_, fun w' => by go_simp <;> rfl, ?_⟩); go_simp; refine hK _ ?_; clear hK K)
            iterate 2 (refine Text.readk rfl rfl (fun K hK => ⟨_, by go_simp <;> rfl, ?_⟩); go_simp; refine hK _ ?_; clear hK K)
            iterate 9 (refine Text.purek rfl rfl (fun K hK => ⟨_, fun w' => by go_simp <;> rfl, ?_⟩); go_simp; refine hK _ ?_; clear hK K)
            iterate 2 (refine Text.readk rfl rfl (fun K hK => ⟨_, by go_simp <;> rfl, ?_⟩); go_simp; refine hK _ ?_; clear hK K)
            iterate 2 (refine Text.purek rfl rfl (fun K hK => ⟨_, fun w' => by go_simp <;> rfl, ?_⟩); go_simp; refine hK _ ?_; clear hK K)
            refine Text.done ?_
            go_wp2_with fail
            go_roundw
            case rel => exact ⟨j + 1, _, by omega, by go_num, rfl, Lib.hid (by rw [HNX.out, HINS.out, HOL.out]; exact ⟨_, c1, rfl, HOUT.out.kept stay_en HXy.out.drew.drew⟩), Lib.hid (below_thenB hb.out hb.out.size HXy.out.drew.drew)⟩
            case measure => simp [intOf]; omega
          · have f4 : (y.seq == x.seq) = false := by rw [beq_eq_false_iff_ne]; exact h4
            have HINS : Hid (insE out x = out.take k ++ x :: out.drop k) := Lib.hid (insE_at (by
              rw [← HIK.out]
              exact low_take HSRT.out HY.out (by rw [ltE_iff]; omega)) hall.out)
            clear h1 h2 h3 h4
            go_wp2_with fail
            refine Text.wp_region_text (fun _ => True) [(0, 4), (1, 4), (2, 4), (3, 4), (4, 4), (5, 4), (6, 4), (7, 4), (9, 4), (8, 1), (10, 1), (11, 4), (12, 4), (13, 4), (14, 4), (15, 4), (16, 4), (17, 4), (19, 4), (18, 1), (20, 1), (21, 4), (22, 4), (23, 4), (24, 4), (25, 4), (26, 4), (27, 4), (29, 4), (28, 1), (30, 1), (31, 4), (32, 4), (33, 4), (34, 4)] (by kernel_rfl) (by kernel_rfl) (fun _ _ _ _ _ h => h) (trivial) ?_
            iterate 9 (refine Text.purek rfl rfl (fun K hK => ⟨_, fun w' => by go_simp <;> rfl, ?_⟩); go_simp; refine hK _ ?_; clear hK K)
            iterate 2 (refine Text.readk rfl rfl (fun K hK => ⟨_, by go_simp <;> rfl, ?_⟩); go_simp; refine hK _ ?_; clear hK K)
            iterate 8 (refine Text.purek rfl rfl (fun K hK => ⟨_, fun w' => by go_simp <;> rfl, ?_⟩); go_simp; refine hK _ ?_; clear hK K)
            iterate 2 (refine Text.readk rfl rfl (fun K hK => ⟨_, by go_simp <;> rfl, ?_⟩); go_simp; refine hK _ ?_; clear hK K)
            iterate 8 (refine Text.purek rfl rfl (fun K hK => ⟨_, fun w' => by go_simp <;> rfl, ?_⟩); go_simp; refine hK _ ?_; clear hK K)
            iterate 2 (refine Text.readk rfl rfl (fun K hK => ⟨_, by go_simp <;> rfl, ?_⟩); go_simp; refine hK _ ?_; clear hK K)
            iterate 4 (refine Text.purek rfl rfl (fun K hK => ⟨_, fun w' => by go_simp <;> rfl, ?_⟩); go_simp; refine hK _ ?_; clear hK K)
            refine Text.done ?_
            go_wp2_with fail
            refine Text.wp_region_text (fun _ => True) [(0, 4), (1, 4), (2, 4), (3, 4), (4, 4), (5, 4), (6, 4), (7, 4), (9, 4), (8, 1), (10, 1), (11, 4), (12, 4), (13, 4), (14, 4), (15, 4), (16, 4), (17, 4), (18, 4), (20, 4), (19, 1), (21, 1), (22, 4), (23, 4)] (by kernel_rfl) (by kernel_rfl) (fun _ _ _ _ _ h => h) (trivial) ?_
            iterate 9 (refine Text.purek rfl rfl (fun K hK => ⟨_, fun w' => by go_simp <;> rfl, ?_⟩); go_simp; refine hK _ ?_; clear hK K)
            iterate 2 (refine Text.readk rfl rfl (fun K hK => ⟨_, by go_simp <;> rfl, ?_⟩); go_simp; refine hK _ ?_; clear hK K)
            iterate 9 (refine Text.purek rfl rfl (fun K hK => ⟨_, fun w' => by go_simp <;> rfl, ?_⟩); go_simp; refine hK _ ?_; clear hK K)
            iterate 2 (refine Text.readk rfl rfl (fun K hK => ⟨_, by go_simp <;> rfl, ?_⟩); go_simp; refine hK _ ?_; clear hK K)
            iterate 2 (refine Text.purek rfl rfl (fun K hK => ⟨_, fun w' => by go_simp <;> rfl, ?_⟩); go_simp; refine hK _ ?_; clear hK K)
            refine Text.done ?_
            go_wp2_with fail
            have HOb : Hid (LS rEn 6 72 wy.drew.drew (some ⟨g', o', none⟩) N c1 out) := Lib.hid (HOUT.out.kept stay_en HXy.out.drew.drew)
            have HVb : Hid (BL wy.drew.drew wx.heap.size 33 (enC x AB m d)) := Lib.hid (HVy.out.drew.drew)
            have HRb : Hid (rEn wy.drew.drew (enC x AB m d) x) := Lib.hid (stay_en _ _ _ _ HRX.out HXy.out.drew.drew)
            have HBb : Hid (Below w.heap.size w wy.drew.drew) := Lib.hid (below_thenB hb.out hb.out.size HXy.out.drew.drew)
            obtain ⟨wb, hwb⟩ : ∃ z, z = wy.drew.drew := ⟨_, rfl⟩
            rw [← hwb] at HOb HVb HRb HBb ⊢
            clear hwb
            have HP := Lib.hid (HOb.out.pre hk)
            have HC := Lib.hid (HOb.out.cutM hk)
            have HTL : Hid ((out.take k).length = k) := Lib.hid HP.out.1
            have HNC : Hid (N ≤ c1) := Lib.hid HOb.out.2.1
            refine Text.wp_region_bt (fun w' => Below wb.heap.size wb w') (.still 1 4 (.still 2 4 (.still 3 4 (.still 5 0 (.still 8 4 (.still 9 4 (.still 10 4 (.br 0 (.br 4 (.eff 6 (.eff 7 (.eff 11 (.still 12 4 .leaf)))) 6 (.eff 4 (.eff 7 (.eff 11 (.still 12 4 .leaf))))) 6 (.eff 0 (.eff 4 (.eff 7 (.eff 11 (.still 12 4 .leaf))))))))))))) (by kernel_rfl) (by kernel_rfl) (fun _ _ _ _ _ h => h) ((Below.refl _ _).drew) ?_
            iterate 2 (refine Text.bpurek rfl rfl (fun K hK => ⟨_, fun w' => by go_simp <;> rfl, ?_⟩); go_simp; refine hK _ ?_; clear hK K)
            refine Text.bpurek rfl rfl (fun K hK => ⟨_, fun w' => exec_preM (.tmp 77) (.tmp 78) 22 33 6 rfl Tryz.underlying22 (szEn _) _ N c1 k rfl (by go_simp) hk HNC.out, ?_⟩)
            go_simp
            refine hK _ ?_
            clear hK K
            refine Text.bheldk rfl rfl (fun K hK => ⟨_, fun w' hw' => exec_loadv 33 (.tmp 5) rfl 6 (by kernel_rfl) wx.heap.size 0 (enC x AB m d) rfl (BL.all (HVb.out.kept hw')) rfl, ?_⟩)
            go_simp
            refine hK _ ?_
            clear hK K
            iterate 2 (refine Text.bpurek rfl rfl (fun K hK => ⟨_, fun w' => by go_simp <;> rfl, ?_⟩); go_simp; refine hK _ ?_; clear hK K)
            refine Text.bpurek rfl rfl (fun K hK => ⟨_, fun w' => exec_cutM (.tmp 84) (.tmp 85) 22 33 6 rfl Tryz.underlying22 (szEn _) _ N c1 k rfl (by go_simp) hk, ?_⟩)
            go_simp
            refine hK _ ?_
            clear hK K
            have HX0 : Hid (Below wb.heap.size wb wb.drew) := Lib.hid (Below.refl _ _).drew
            refine Text.bfork ?_ ?_
            · refine Text.beff rfl rfl (fun K hK => ?_)
              refine wp_bslice 22 33 0 _ rfl #[] (by rw [List.map_toArray]; rfl) [] (bslE0 _) ?_
              intro wa a1 a2 a3
              have HKwa := Lib.hid a2
              have HGwa := Lib.hid a1
              have HXwa : Hid (Below wb.heap.size wb wa) := Lib.hid (below_thenB (HX0).out (by have := (HX0).out.size; exact this) a2)
              have HOwa : Hid (OL rEn 6 33 wb wa (.slice (some ⟨wb.heap.size, 0, none⟩) 0 0) []) := Lib.hid (OL.nil' _ _ a1 (by have := (HX0).out.size; exact this))
              refine hK _ _ HXwa.out ?_
              clear hK K a1 a2 a3
              refine Text.bfork ?_ ?_
              · refine Text.beff rfl rfl (fun K hK => ?_)
                obtain ⟨iS, i1, i2, i3, i4⟩ := info_some infoEn
                refine wp_appOL2 _ (.tmp 76) (.tmp 79) iS _ rfl Tryz.underlying22 i1 i2 i3 rfl _ rfl (HOwa).out (HXwa).out rfl HP.out (fun _ _ h => len_en _ _ h) (fun _ _ h => ones_en _ _ h) (by rw [i4]; have := HSZ.out; simp; omega) (by have := HSZ.out; simp; omega) (fun v4 wc q1 q2 q3 => ?_)
                have HXwc := Lib.hid q2
                have HKP4 := Lib.hid q3
                have HO4 : Hid (OL rEn 6 33 wb wc v4 (out.take k)) := Lib.hid q1
                refine hK _ _ HXwc.out ?_
                clear hK K q1 q2 q3 i1 i2 i3 i4
                refine Text.beff rfl rfl (fun K hK => ?_)
                refine wp_bslice 22 33 1 _ rfl #[(0, .agg (enC x AB m d).toArray)] (by rw [List.map_toArray]; rfl) (enC x AB m d) (bslEn1 _ _ _ _ _) ?_
                intro wd a1 a2 a3
                have HKwd := Lib.hid a2
                have HXwd : Hid (Below wb.heap.size wb wd) := Lib.hid (below_thenB (HXwc).out (by have := (HXwc).out.size; exact this) a2)
                have HGwd := Lib.hid a1
                refine hK _ _ HXwd.out ?_
                clear hK K a1 a2 a3
                have HO5 := Lib.hid (HO4.out.kept HKwd.out)
                obtain ⟨cs4, g1, g2, g3, g4, g5⟩ := (HO5).out
                have HK1 := Lib.hid g1
                have HK2 := Lib.hid g2
                have HK3 := Lib.hid g3
                rw [HTL.out] at g4
                have HK4 := Lib.hid g4
                have HK5 := Lib.hid g5
                clear g1 g2 g3 g4 g5
                refine Text.beff rfl rfl (fun K hK => ?_)
                obtain ⟨iS, i1, i2, i3, i4⟩ := info_some infoEn
                refine wp_appRW _ (.tmp 80) (.tmp 82) 22 33 6 iS _ rfl Tryz.underlying22 i1 i2 i3 rfl v4 k _ rfl HK4.out wc.heap.size (enC x AB m d) rfl (HGwd).out rfl (one_en x AB m d) (by rw [i4]; have := HSZ.out; omega) (by have := HSZ.out; omega) ?_
                intro v7 w7 ap
                have HX7 : Hid (Below wb.heap.size wb w7) := Lib.hid (low_kp (HXwd).out ap.kp (fun i hi e => by have := HK5.out i e; omega))
                have HO7 : Hid (OL rEn 6 33 wb w7 v7 (out.take k ++ [x])) := Lib.hid (OL.push HK1.out HK2.out HK3.out HK5.out HTL.out rfl HRb.out (HXwd).out.size ap)
                refine hK _ _ HX7.out ?_
                clear hK K ap i1 i2 i3 i4
                refine Text.beff rfl rfl (fun K hK => ?_)
                obtain ⟨iS, i1, i2, i3, i4⟩ := info_some infoEn
                refine wp_appOL _ (.tmp 83) (.tmp 86) iS _ rfl Tryz.underlying22 i1 i2 i3 rfl _ rfl HO7.out HX7.out rfl HC.out (fun _ _ h => len_en _ _ h) (fun _ _ h => ones_en _ _ h) (by rw [i4, List.length_append, HTL.out]; have := HSZ.out; simp; omega) (by rw [List.length_append, HTL.out]; have := HSZ.out; simp; omega) (fun v9 w9 q1 q2 => ?_)
                have HX9 := Lib.hid q2
                have HO9 := Lib.hid q1
                refine hK _ _ HX9.out ?_
                clear hK K q1 q2 i1 i2 i3 i4
                (refine Text.bpurek rfl rfl (fun K hK => ⟨_, fun w' => by go_simp <;> rfl, ?_⟩); go_simp; refine hK _ ?_; clear hK K)
                refine Text.bdone ?_
                have HW9 : Hid (∃ A9 c9, v9 = .slice A9 (insE out x).length c9 ∧ LS rEn 6 72 w9 A9 (insE out x).length c9 (insE out x)) := Lib.hid (by
                  have e : out.take k ++ [x] ++ out.drop k = insE out x := by rw [HINS.out, List.append_assoc]; rfl
                  have ho := HO9.out
                  rw [e] at ho
                  exact ho.ls (b := 72) stay_en HX9.out (by rw [HINS.out]; have := HSZ.out; have := HOL.out; unfold lim; simp; omega))
                go_wp2_with fail
                go_roundw
                case rel => exact ⟨j + 1, v9, by omega, by go_num, rfl, Lib.hid (by rw [HNX.out]; exact HW9.out), Lib.hid (below_thenB HBb.out HBb.out.size HX9.out)⟩
                case measure => simp [intOf]; omega
              · refine Text.beff rfl rfl (fun K hK => ?_)
                refine wp_bslice 22 33 1 _ rfl #[(0, .agg (enC x AB m d).toArray)] (by rw [List.map_toArray]; rfl) (enC x AB m d) (bslEn1 _ _ _ _ _) ?_
                intro wc a1 a2 a3
                have HKwc := Lib.hid a2
                have HXwc : Hid (Below wb.heap.size wb wc) := Lib.hid (below_thenB (HXwa).out (by have := (HXwa).out.size; exact this) a2)
                have HGwc := Lib.hid a1
                refine hK _ _ HXwc.out ?_
                clear hK K a1 a2 a3
                have HOc := Lib.hid (HOwa.out.kept HKwc.out)
                refine Text.beff rfl rfl (fun K hK => ?_)
                obtain ⟨iS, i1, i2, i3, i4⟩ := info_some infoEn
                refine wp_appOL2 _ (.tmp 76) (.tmp 79) iS _ rfl Tryz.underlying22 i1 i2 i3 rfl _ rfl (HOc).out (HXwc).out rfl HP.out (fun _ _ h => len_en _ _ h) (fun _ _ h => ones_en _ _ h) (by rw [i4]; have := HSZ.out; simp; omega) (by have := HSZ.out; simp; omega) (fun v4 wd q1 q2 q3 => ?_)
                have HXwd := Lib.hid q2
                have HKP4 := Lib.hid q3
                have HO4 : Hid (OL rEn 6 33 wb wd v4 (out.take k)) := Lib.hid q1
                refine hK _ _ HXwd.out ?_
                clear hK K q1 q2 q3 i1 i2 i3 i4
                have HGs := Lib.hid (HGwc.out.kp HKP4.out (fun e => by have e' : wb.heap.size = wa.heap.size := Option.some.inj e; have h7 : wb.heap.size < wa.heap.size := HGwa.out.lt; omega))
                obtain ⟨cs4, g1, g2, g3, g4, g5⟩ := (HO4).out
                have HK1 := Lib.hid g1
                have HK2 := Lib.hid g2
                have HK3 := Lib.hid g3
                rw [HTL.out] at g4
                have HK4 := Lib.hid g4
                have HK5 := Lib.hid g5
                clear g1 g2 g3 g4 g5
                refine Text.beff rfl rfl (fun K hK => ?_)
                obtain ⟨iS, i1, i2, i3, i4⟩ := info_some infoEn
                refine wp_appRW _ (.tmp 80) (.tmp 82) 22 33 6 iS _ rfl Tryz.underlying22 i1 i2 i3 rfl v4 k _ rfl HK4.out wa.heap.size (enC x AB m d) rfl (HGs).out rfl (one_en x AB m d) (by rw [i4]; have := HSZ.out; omega) (by have := HSZ.out; omega) ?_
                intro v7 w7 ap
                have HX7 : Hid (Below wb.heap.size wb w7) := Lib.hid (low_kp (HXwd).out ap.kp (fun i hi e => by have := HK5.out i e; omega))
                have HO7 : Hid (OL rEn 6 33 wb w7 v7 (out.take k ++ [x])) := Lib.hid (OL.push HK1.out HK2.out HK3.out HK5.out HTL.out rfl HRb.out (HXwd).out.size ap)
                refine hK _ _ HX7.out ?_
                clear hK K ap i1 i2 i3 i4
                refine Text.beff rfl rfl (fun K hK => ?_)
                obtain ⟨iS, i1, i2, i3, i4⟩ := info_some infoEn
                refine wp_appOL _ (.tmp 83) (.tmp 86) iS _ rfl Tryz.underlying22 i1 i2 i3 rfl _ rfl HO7.out HX7.out rfl HC.out (fun _ _ h => len_en _ _ h) (fun _ _ h => ones_en _ _ h) (by rw [i4, List.length_append, HTL.out]; have := HSZ.out; simp; omega) (by rw [List.length_append, HTL.out]; have := HSZ.out; simp; omega) (fun v9 w9 q1 q2 => ?_)
                have HX9 := Lib.hid q2
                have HO9 := Lib.hid q1
                refine hK _ _ HX9.out ?_
                clear hK K q1 q2 i1 i2 i3 i4
                (refine Text.bpurek rfl rfl (fun K hK => ⟨_, fun w' => by go_simp <;> rfl, ?_⟩); go_simp; refine hK _ ?_; clear hK K)
                refine Text.bdone ?_
                have HW9 : Hid (∃ A9 c9, v9 = .slice A9 (insE out x).length c9 ∧ LS rEn 6 72 w9 A9 (insE out x).length c9 (insE out x)) := Lib.hid (by
                  have e : out.take k ++ [x] ++ out.drop k = insE out x := by rw [HINS.out, List.append_assoc]; rfl
                  have ho := HO9.out
                  rw [e] at ho
                  exact ho.ls (b := 72) stay_en HX9.out (by rw [HINS.out]; have := HSZ.out; have := HOL.out; unfold lim; simp; omega))
                go_wp2_with fail
                go_roundw
                case rel => exact ⟨j + 1, v9, by omega, by go_num, rfl, Lib.hid (by rw [HNX.out]; exact HW9.out), Lib.hid (below_thenB HBb.out HBb.out.size HX9.out)⟩
                case measure => simp [intOf]; omega
            · refine Text.beff rfl rfl (fun K hK => ?_)
              refine wp_bslice 22 33 1 _ rfl #[(0, .agg (enC x AB m d).toArray)] (by rw [List.map_toArray]; rfl) (enC x AB m d) (bslEn1 _ _ _ _ _) ?_
              intro wa a1 a2 a3
              have HKwa := Lib.hid a2
              have HXwa : Hid (Below wb.heap.size wb wa) := Lib.hid (below_thenB (HX0).out (by have := (HX0).out.size; exact this) a2)
              have HGwa := Lib.hid a1
              refine hK _ _ HXwa.out ?_
              clear hK K a1 a2 a3
              refine Text.beff rfl rfl (fun K hK => ?_)
              refine wp_bslice 22 33 0 _ rfl #[] (by rw [List.map_toArray]; rfl) [] (bslE0 _) ?_
              intro wc a1 a2 a3
              have HKwc := Lib.hid a2
              have HGwc := Lib.hid a1
              have HXwc : Hid (Below wb.heap.size wb wc) := Lib.hid (below_thenB (HXwa).out (by have := (HXwa).out.size; exact this) a2)
              have HOwc : Hid (OL rEn 6 33 wb wc (.slice (some ⟨wa.heap.size, 0, none⟩) 0 0) []) := Lib.hid (OL.nil' _ _ a1 (by have := (HXwa).out.size; exact this))
              refine hK _ _ HXwc.out ?_
              clear hK K a1 a2 a3
              have HGa := Lib.hid (HGwa.out.kept HKwc.out)
              refine Text.beff rfl rfl (fun K hK => ?_)
              obtain ⟨iS, i1, i2, i3, i4⟩ := info_some infoEn
              refine wp_appOL2 _ (.tmp 76) (.tmp 79) iS _ rfl Tryz.underlying22 i1 i2 i3 rfl _ rfl (HOwc).out (HXwc).out rfl HP.out (fun _ _ h => len_en _ _ h) (fun _ _ h => ones_en _ _ h) (by rw [i4]; have := HSZ.out; simp; omega) (by have := HSZ.out; simp; omega) (fun v4 wd q1 q2 q3 => ?_)
              have HXwd := Lib.hid q2
              have HKP4 := Lib.hid q3
              have HO4 : Hid (OL rEn 6 33 wb wd v4 (out.take k)) := Lib.hid q1
              refine hK _ _ HXwd.out ?_
              clear hK K q1 q2 q3 i1 i2 i3 i4
              have HGs := Lib.hid (HGa.out.kp HKP4.out (fun e => by have e' : wa.heap.size = wb.heap.size := Option.some.inj e; have h7 : wb.heap.size < wa.heap.size := HGwa.out.lt; omega))
              obtain ⟨cs4, g1, g2, g3, g4, g5⟩ := (HO4).out
              have HK1 := Lib.hid g1
              have HK2 := Lib.hid g2
              have HK3 := Lib.hid g3
              rw [HTL.out] at g4
              have HK4 := Lib.hid g4
              have HK5 := Lib.hid g5
              clear g1 g2 g3 g4 g5
              refine Text.beff rfl rfl (fun K hK => ?_)
              obtain ⟨iS, i1, i2, i3, i4⟩ := info_some infoEn
              refine wp_appRW _ (.tmp 80) (.tmp 82) 22 33 6 iS _ rfl Tryz.underlying22 i1 i2 i3 rfl v4 k _ rfl HK4.out wb.drew.heap.size (enC x AB m d) rfl (HGs).out rfl (one_en x AB m d) (by rw [i4]; have := HSZ.out; omega) (by have := HSZ.out; omega) ?_
              intro v7 w7 ap
              have HX7 : Hid (Below wb.heap.size wb w7) := Lib.hid (low_kp (HXwd).out ap.kp (fun i hi e => by have := HK5.out i e; omega))
              have HO7 : Hid (OL rEn 6 33 wb w7 v7 (out.take k ++ [x])) := Lib.hid (OL.push HK1.out HK2.out HK3.out HK5.out HTL.out rfl HRb.out (HXwd).out.size ap)
              refine hK _ _ HX7.out ?_
              clear hK K ap i1 i2 i3 i4
              refine Text.beff rfl rfl (fun K hK => ?_)
              obtain ⟨iS, i1, i2, i3, i4⟩ := info_some infoEn
              refine wp_appOL _ (.tmp 83) (.tmp 86) iS _ rfl Tryz.underlying22 i1 i2 i3 rfl _ rfl HO7.out HX7.out rfl HC.out (fun _ _ h => len_en _ _ h) (fun _ _ h => ones_en _ _ h) (by rw [i4, List.length_append, HTL.out]; have := HSZ.out; simp; omega) (by rw [List.length_append, HTL.out]; have := HSZ.out; simp; omega) (fun v9 w9 q1 q2 => ?_)
              have HX9 := Lib.hid q2
              have HO9 := Lib.hid q1
              refine hK _ _ HX9.out ?_
              clear hK K q1 q2 i1 i2 i3 i4
              (refine Text.bpurek rfl rfl (fun K hK => ⟨_, fun w' => by go_simp <;> rfl, ?_⟩); go_simp; refine hK _ ?_; clear hK K)
              refine Text.bdone ?_
              have HW9 : Hid (∃ A9 c9, v9 = .slice A9 (insE out x).length c9 ∧ LS rEn 6 72 w9 A9 (insE out x).length c9 (insE out x)) := Lib.hid (by
                have e : out.take k ++ [x] ++ out.drop k = insE out x := by rw [HINS.out, List.append_assoc]; rfl
                have ho := HO9.out
                rw [e] at ho
                exact ho.ls (b := 72) stay_en HX9.out (by rw [HINS.out]; have := HSZ.out; have := HOL.out; unfold lim; simp; omega))
              go_wp2_with fail
              go_roundw
              case rel => exact ⟨j + 1, v9, by omega, by go_num, rfl, Lib.hid (by rw [HNX.out]; exact HW9.out), Lib.hid (below_thenB HBb.out HBb.out.size HX9.out)⟩
              case measure => simp [intOf]; omega
    · obtain rfl : j = n := by omega
      have HE : Hid (out = cnt es) := Lib.hid (by rw [HOD.out, take_end HL.out])
      go_wp2_with fail
      go_ret
      exact ⟨A1, c1, by rw [← HE.out, HOL.out]; rfl, by rw [← HE.out, HOL.out]; exact HOUT.out, hb.out⟩
end Go.Proofs.YtfonbliomokffaaGreat
