/- Contract of column.through. -/
import Derived.Test.YtakedococfklgaaCo0m
import Derived.Test.YtakedococfklgaaB2
namespace Go.Proofs.Ytakedococfklgaa
open Go.RowKit Gf

attribute [local go_sem] Gf.xor_bits Gf.and_bits Gf.or_bits Gf.ne_zero_iff Gf.eq_zero_iff Gf.eq_one_iff Gf.beq_bytes Gf.bne_bytes Gf.bv_toNat

/-- Truth values. -/
def gO (l : List Bool) (k : Nat) : Bool := l.getD k false
def WS (w : World) (A : Option Addr) (n c : Nat) (l : List Bool) : Prop := l.length = n ∧ n ≤ c ∧ n ≤ lim ∧ Cells w A n (fun k => .bool (gO l k))
theorem WS.kept {w w' : World} {A : Option Addr} {n c : Nat} {l : List Bool} (h : WS w A n c l) (hb : Below w.heap.size w w') : WS w' A n c l := ⟨h.1, h.2.1, h.2.2.1, h.2.2.2.kept hb⟩
theorem WS.at_ {w w' : World} {A : Option Addr} {n c : Nat} {l : List Bool} (h : WS w A n c l) (hb : Below w.heap.size w w') {k : Nat} (hk : k < n) : ∃ g o, A = some ⟨g, o, none⟩ ∧ w'.cell? ⟨g, o + k, none⟩ = some (.bool (gO l k)) := (h.kept hb).2.2.2 k hk

/-- The points that through takes, so far. -/
def thK (xs ys : List UInt8) (wl : List Bool) (t : Nat) : Nat → List UInt8 × List UInt8
  | 0 => ([], [])
  | k + 1 => if gO wl k = false ∧ (thK xs ys wl t k).1.length < t then ((thK xs ys wl t k).1 ++ [gB xs k], (thK xs ys wl t k).2 ++ [gB ys k]) else thK xs ys wl t k
theorem thK_len (xs ys : List UInt8) (wl : List Bool) (t : Nat) : ∀ k, (thK xs ys wl t k).1.length = (thK xs ys wl t k).2.length ∧ (thK xs ys wl t k).1.length ≤ k
  | 0 => ⟨rfl, Nat.le_refl _⟩
  | k + 1 => by
    have := thK_len xs ys wl t k
    unfold thK
    split
    · simp; omega
    · omega
theorem dst_iff (l : List UInt8) : Py.Dst l ↔ l.Nodup := by
  unfold Py.Dst List.Nodup
  rw [List.pairwise_iff_getElem]
  constructor
  · intro h i j hi hj hij
    have := h i j hij hj
    rwa [gB_eq hi, gB_eq hj] at this
  · intro h i j hij hj
    rw [gB_eq (show i < l.length by omega), gB_eq hj]
    exact h i j (by omega) hj hij
theorem thK_sub (xs ys : List UInt8) (wl : List Bool) (t : Nat) : ∀ k, k ≤ xs.length → (thK xs ys wl t k).1.Sublist (xs.take k)
  | 0, _ => by simp [thK]
  | k + 1, h => by
    have ih := thK_sub xs ys wl t k (by omega)
    rw [List.take_succ_eq_append_getElem (by omega)]
    unfold thK
    split
    · rw [gB_eq (by omega)]; exact List.Sublist.append ih (List.Sublist.refl _)
    · exact ih.trans (List.sublist_append_left _ _)
theorem thK_dst {xs : List UInt8} (ys : List UInt8) (wl : List Bool) (t : Nat) (h : Py.Dst xs) : Py.Dst (thK xs ys wl t xs.length).1 := by
  rw [dst_iff] at h ⊢
  have := thK_sub xs ys wl t xs.length (Nat.le_refl _)
  rw [List.take_length] at this
  exact h.sublist this
/-- The polynomial that through returns. -/
def thP (xs ys : List UInt8) (wl : List Bool) (t : Nat) : List UInt8 := Py.itP (thK xs ys wl t xs.length).1 (thK xs ys wl t xs.length).2

def ThI (base : Nat) (xs ys : List UInt8) (wl : List Bool) (t k n1 : Nat) (v1 v2 : Value) (w : World) : Prop := n1 = (thK xs ys wl t k).1.length ∧ R2 base w v1 v2 (thK xs ys wl t k).1 (thK xs ys wl t k).2
theorem thI_push {base : Nat} {xs ys : List UInt8} {wl : List Bool} {t k : Nat} {v1 v2 : Value} {w : World} (h : gO wl k = false ∧ (thK xs ys wl t k).1.length < t) (hr : R2 base w v1 v2 ((thK xs ys wl t k).1 ++ [gB xs k]) ((thK xs ys wl t k).2 ++ [gB ys k])) :
    (∃ A c, v1 = .slice A (thK xs ys wl t (k + 1)).1.length c) ∧ R2 base w v1 v2 (thK xs ys wl t (k + 1)).1 (thK xs ys wl t (k + 1)).2 := by
  have e : thK xs ys wl t (k + 1) = ((thK xs ys wl t k).1 ++ [gB xs k], (thK xs ys wl t k).2 ++ [gB ys k]) := by rw [thK, if_pos h]
  rw [e]
  refine ⟨?_, hr⟩
  rcases hr.o1.2 with ⟨h1, h2⟩ | ⟨g, cap, cur, h1, _⟩
  · simp at h2
  · exact ⟨_, _, h1⟩

set_option maxRecDepth 100000 in
set_option maxHeartbeats 2000000 in
theorem through_any (gc : Nat) (A A' Aw : Option Addr) (n c c' t cw : Nat) (xs ys : List UInt8) (wl : List Bool) (w : World) (h : Col w gc A A' n c c' t xs ys) (hw : WS w Aw n cw wl) (hn : n ≤ 1000) (hd : Py.Dst xs) :
    Calls Try.prog 66 #[.pointer (some ⟨gc, 0, none⟩), .slice Aw n cw] w (Rets (GvB (thP xs ys wl t)) w) := by
  have hc0 := h.c0
  have H := Lib.hid h
  have HW := Lib.hid hw
  have HLX := Lib.hid h.b0.1
  have HD := Lib.hid hd
  have hn2 : n ≤ 140737488355328 := by omega
  have HN := Lib.hid hn
  obtain ⟨wo, rfl⟩ : ∃ wo : World, wo = w := ⟨_, rfl⟩
  clear h hw hd hn
  go_enter Try.func66, Try.ntmps66
  go_wp2_with fail
  clear hc0
  go_loopw [5, 6, 16] (fun v1 v2 i wr => ∃ (k : Nat) (v1' v2' : Value), k ≤ n ∧ i = .int .i64 (k : Int) ∧ (∃ A c, v1 = .slice A (thK xs ys wl t k).1.length c) ∧ Hid (R2 wo.heap.size wr v1 v2 (thK xs ys wl t k).1 (thK xs ys wl t k).2) ∧ Hid (Below wo.heap.size wo wr)) (fun _ _ i _ => n - (intOf i).toNat)
  case atStart => exact ⟨0, undef, undef, by omega, rfl, ⟨none, 0, rfl⟩, Lib.hid (R2.nil _ _), Lib.hid (Below.refl _ _)⟩
  case round =>
    obtain ⟨k, _, _, hk, rfl, ⟨A5, c5, rfl⟩, hr, hb⟩ := hrel
    by_cases hlt : k < n
    · have HK1 : Hid ((thK xs ys wl t k).1.length ≤ 1000 ∧ (thK xs ys wl t k).2.length ≤ 1000) := Lib.hid (by have h1 := thK_len xs ys wl t k; have h2 := HN.out; omega)
      obtain ⟨m, hm⟩ : ∃ m, m = (thK xs ys wl t k).1.length := ⟨_, rfl⟩
      obtain ⟨gx, ox, rfl, hcx⟩ := H.out.b0.at_ hb.out hlt
      obtain ⟨gy, oy, rfl, hcy⟩ := H.out.b1.at_ (Below.refl _ _) hlt
      obtain ⟨gw, ow, rfl, hcw⟩ := HW.out.at_ hb.out hlt
      have hc2 := (H.out.kept hb.out).c2
      have HY1 := Lib.hid H.out.c1
      have HY2 := Lib.hid hcy
      clear hcy
      rw [← hm]
      have HM := Lib.hid hm
      clear hm
      cases hwk : gO wl k with
      | true =>
        rw [hwk] at hcw
        have HT : Hid (thK xs ys wl t (k + 1) = thK xs ys wl t k) := Lib.hid (by rw [thK, if_neg (by rw [hwk]; simp)])
        go_wp2_with fail
        go_roundw
        case rel => exact ⟨k + 1, undef, undef, by omega, by go_num, ⟨A5, c5, by rw [HT.out, HM.out]⟩, Lib.hid (by rw [HT.out]; have := hr.out; rw [← HM.out] at this; exact this), hb⟩
        case measure => simp [intOf]; omega
      | false =>
        rw [hwk] at hcw
        by_cases hmt : m < t
        · have q : decide ((m : Int) < (t : Int)) = true := by simp; omega
          have q' : decide (m < t) = true := by simpa using hmt
          have HTT : Hid (gO wl k = false ∧ (thK xs ys wl t k).1.length < t) := Lib.hid ⟨hwk, by rw [← HM.out]; exact hmt⟩
          go_wp2_with fail
          obtain ⟨u5, hu5⟩ : ∃ u5 : Value, u5 = .slice A5 m c5 := ⟨_, rfl⟩
          have HCX : Hid (R2 wo.heap.size wr u5 u6 (thK xs ys wl t k).1 (thK xs ys wl t k).2) := Lib.hid (by rw [hu5]; have := hr.out; rw [← HM.out] at this; exact this)
          have HBX := hb
          rw [← hu5]
          clear hu5 hcx hcw hc2 q q'
          refine Text.wp_region_bt (fun w' => w'.cell? ⟨gc, 1, none⟩ = some (.slice (some ⟨gy, oy, none⟩) n c') ∧ w'.cell? ⟨gy, oy + k, none⟩ = some (B (gB ys k))) (.still 0 4 (.still 1 4 (.still 4 4 (.still 5 4 (.still 6 4 (.still 7 4 (.still 8 0 (.still 9 4 (.still 10 4 (.still 11 0 (.br 2 (.br 3 (.eff 12 (.eff 13 (.still 14 4 (.still 15 4 (.leaf))))) 12 (.eff 3 (.eff 13 (.still 14 4 (.still 15 4 (.leaf)))))) 12 (.eff 2 (.eff 3 (.eff 13 (.still 14 4 (.still 15 4 (.leaf))))))))))))))))) (by kernel_rfl) (by kernel_rfl) (fun _ _ _ _ _ h => h) (⟨cell_kept hb.out.drew HY1.out, cell_kept hb.out.drew HY2.out⟩) ?_
          obtain ⟨wd, hwd⟩ : ∃ wd : World, wd = wr.drew := ⟨_, rfl⟩
          have HCwd : Hid (R2 wo.heap.size wd u5 u6 (thK xs ys wl t k).1 (thK xs ys wl t k).2) := Lib.hid (by rw [hwd]; exact HCX.out.drew)
          have HBwd : Hid (Below wo.heap.size wo wd) := Lib.hid (by rw [hwd]; exact HBX.out.drew)
          have HZwd : Hid (wo.heap.size ≤ wd.heap.size) := Lib.hid HBwd.out.size
          rw [← hwd]
          clear hwd HCX HBX
          iterate 6 (refine Text.bpurek rfl rfl (fun K hK => ⟨_, fun w' => by go_simp <;> rfl, ?_⟩); go_simp; refine hK _ ?_; clear hK K)
          have hcd1 := cell_kept HBwd.out HY1.out
          (refine Text.bheldk rfl rfl (fun K hK => ⟨_, fun w' hw' => by have h9 := hw'.1; go_simp <;> rfl, ?_⟩); go_simp; refine hK _ ?_; clear hK K)
          iterate 2 (refine Text.bpurek rfl rfl (fun K hK => ⟨_, fun w' => by go_simp <;> rfl, ?_⟩); go_simp; refine hK _ ?_; clear hK K)
          have hcd2 := cell_kept HBwd.out HY2.out
          (refine Text.bheldk rfl rfl (fun K hK => ⟨_, fun w' hw' => by have h9 := hw'.2; go_simp <;> rfl, ?_⟩); go_simp; refine hK _ ?_; clear hK K)
          clear hcd1 hcd2
          refine Text.bfork ?_ ?_
          · refine Text.beff rfl rfl (fun K hK => ?_)
            go_simp
            obtain ⟨gA, hggA⟩ : ∃ g, g = wd.heap.size := ⟨_, rfl⟩
            obtain ⟨wa1, hwwa1⟩ : ∃ w' : World, w' = wd.alloc (.cells #[B (gB xs k)] 5) := ⟨_, rfl⟩
            have kbwa1 : Below wd.heap.size wd wa1 := by rw [hwwa1]; exact (Below.refl _ _).alloc (Nat.le_refl _) _
            have HgAwa1 : Hid (Blk wa1 gA 5 #[B (gB xs k)]) := Lib.hid (by rw [hwwa1, hggA]; exact Blk.new _ _ _)
            have HCwa1 := Lib.hid (HCwd.out.kept kbwa1)
            have HBwa1 : Hid (Below wo.heap.size wo wa1) := Lib.hid (below_then HBwd.out kbwa1)
            have HFgAwa1 : Hid (∀ v : Value, (∀ q, v.ownBlock = some q → q < wd.heap.size) → v.ownBlock ≠ some gA) := Lib.hid (fun v h e => by have := h _ e; omega)
            rw [← hwwa1, ← hggA]
            refine hK _ _ (⟨cell_kept HBwa1.out HY1.out, cell_kept HBwa1.out HY2.out⟩) ?_
            clear hK K kbwa1 hwwa1 hggA
            refine Text.bfork ?_ ?_
            · refine Text.beff rfl rfl (fun K hK => ?_)
              refine wp_app1 wa1 (.tmp 35) (.tmp 37) 22 5 (.int .u8 0) 1 Try.underlying22 infoU8 rfl rfl wo.heap.size u5 ((thK xs ys wl t k).1).length (((thK xs ys wl t k).1).map B) rfl HCwa1.out.o1 gA 1 5 (B (gB xs k)) rfl HgAwa1.out rfl (by have := HK1.out; omega) (by have := HK1.out; omega) HBwa1.out.size ?_
              intro va2 wa2 hpwa2
              have HCwa2 := Lib.hid (HCwa1.out.app1 hpwa2)
              have HBwa2 : Hid (Below wo.heap.size wo wa2) := Lib.hid (HBwa1.out.grown hpwa2.2.1 HBwa1.out.size (fun q hq => own_base HCwa1.out.o1 q hq))
              refine hK _ _ (⟨cell_kept HBwa2.out HY1.out, cell_kept HBwa2.out HY2.out⟩) ?_
              clear hK K hpwa2
              refine Text.beff rfl rfl (fun K hK => ?_)
              go_simp
              obtain ⟨gS, hggS⟩ : ∃ g, g = wa2.heap.size := ⟨_, rfl⟩
              obtain ⟨wa3, hwwa3⟩ : ∃ w' : World, w' = wa2.alloc (.cells #[B (gB ys k)] 5) := ⟨_, rfl⟩
              have kbwa3 : Below wa2.heap.size wa2 wa3 := by rw [hwwa3]; exact (Below.refl _ _).alloc (Nat.le_refl _) _
              have HgSwa3 : Hid (Blk wa3 gS 5 #[B (gB ys k)]) := Lib.hid (by rw [hwwa3, hggS]; exact Blk.new _ _ _)
              have HCwa3 := Lib.hid (HCwa2.out.kept kbwa3)
              have HBwa3 : Hid (Below wo.heap.size wo wa3) := Lib.hid (below_then HBwa2.out kbwa3)
              have HFgSwa3 : Hid (∀ v : Value, (∀ q, v.ownBlock = some q → q < wa2.heap.size) → v.ownBlock ≠ some gS) := Lib.hid (fun v h e => by have := h _ e; omega)
              rw [← hwwa3, ← hggS]
              refine hK _ _ (⟨cell_kept HBwa3.out HY1.out, cell_kept HBwa3.out HY2.out⟩) ?_
              clear hK K kbwa3 hwwa3 hggS
              refine Text.beff rfl rfl (fun K hK => ?_)
              refine wp_app1 wa3 (.tmp 39) (.tmp 47) 22 5 (.int .u8 0) 1 Try.underlying22 infoU8 rfl rfl wo.heap.size u6 ((thK xs ys wl t k).2).length (((thK xs ys wl t k).2).map B) rfl HCwa3.out.o2 gS 1 5 (B (gB ys k)) rfl HgSwa3.out rfl (by have := HK1.out; omega) (by have := HK1.out; omega) HBwa3.out.size ?_
              intro va4 wa4 hpwa4
              have HCwa4 := Lib.hid (HCwa3.out.app2 hpwa4)
              have HBwa4 : Hid (Below wo.heap.size wo wa4) := Lib.hid (HBwa3.out.grown hpwa4.2.1 HBwa3.out.size (fun q hq => own_base HCwa3.out.o2 q hq))
              refine hK _ _ (⟨cell_kept HBwa4.out HY1.out, cell_kept HBwa4.out HY2.out⟩) ?_
              clear hK K hpwa4
              iterate 2 (refine Text.bpurek rfl rfl (fun K hK => ⟨_, fun w' => by go_simp <;> rfl, ?_⟩); go_simp; refine hK _ ?_; clear hK K)
              refine Text.bdone ?_
              have HFF := Lib.hid (thI_push HTT.out HCwa4.out)
              go_wp2_with fail
              go_roundw
              case rel => exact ⟨k + 1, undef, undef, by omega, by go_num, HFF.out.1, Lib.hid HFF.out.2, HBwa4⟩
              case measure => simp [intOf]; omega
            · refine Text.beff rfl rfl (fun K hK => ?_)
              go_simp
              obtain ⟨gS, hggS⟩ : ∃ g, g = wa1.heap.size := ⟨_, rfl⟩
              obtain ⟨wb2, hwwb2⟩ : ∃ w' : World, w' = wa1.alloc (.cells #[B (gB ys k)] 5) := ⟨_, rfl⟩
              have kbwb2 : Below wa1.heap.size wa1 wb2 := by rw [hwwb2]; exact (Below.refl _ _).alloc (Nat.le_refl _) _
              have HgSwb2 : Hid (Blk wb2 gS 5 #[B (gB ys k)]) := Lib.hid (by rw [hwwb2, hggS]; exact Blk.new _ _ _)
              have HgAwb2 := Lib.hid (HgAwa1.out.kept kbwb2)
              have HCwb2 := Lib.hid (HCwa1.out.kept kbwb2)
              have HBwb2 : Hid (Below wo.heap.size wo wb2) := Lib.hid (below_then HBwa1.out kbwb2)
              have HFgSwb2 : Hid (∀ v : Value, (∀ q, v.ownBlock = some q → q < wa1.heap.size) → v.ownBlock ≠ some gS) := Lib.hid (fun v h e => by have := h _ e; omega)
              have HLgSwb2 : Hid ((∀ q, u5.ownBlock = some q → q < wa1.heap.size) ∧ ∀ q, u6.ownBlock = some q → q < wa1.heap.size) := Lib.hid ⟨fun q h => (HCwa1.out.o1.lt q h).2, fun q h => (HCwa1.out.o2.lt q h).2⟩
              rw [← hwwb2, ← hggS]
              refine hK _ _ (⟨cell_kept HBwb2.out HY1.out, cell_kept HBwb2.out HY2.out⟩) ?_
              clear hK K kbwb2 hwwb2 hggS
              refine Text.beff rfl rfl (fun K hK => ?_)
              refine wp_app1 wb2 (.tmp 35) (.tmp 37) 22 5 (.int .u8 0) 1 Try.underlying22 infoU8 rfl rfl wo.heap.size u5 ((thK xs ys wl t k).1).length (((thK xs ys wl t k).1).map B) rfl HCwb2.out.o1 gA 1 5 (B (gB xs k)) rfl HgAwb2.out rfl (by have := HK1.out; omega) (by have := HK1.out; omega) HBwb2.out.size ?_
              intro vb3 wb3 hpwb3
              have HCwb3 := Lib.hid (HCwb2.out.app1 hpwb3)
              have HBwb3 : Hid (Below wo.heap.size wo wb3) := Lib.hid (HBwb2.out.grown hpwb3.2.1 HBwb2.out.size (fun q hq => own_base HCwb2.out.o1 q hq))
              have HgSwb3 := Lib.hid (grown_blk hpwb3.2.1 HgSwb2.out (HFgSwb2.out _ HLgSwb2.out.1))
              refine hK _ _ (⟨cell_kept HBwb3.out HY1.out, cell_kept HBwb3.out HY2.out⟩) ?_
              clear hK K hpwb3
              refine Text.beff rfl rfl (fun K hK => ?_)
              refine wp_app1 wb3 (.tmp 39) (.tmp 47) 22 5 (.int .u8 0) 1 Try.underlying22 infoU8 rfl rfl wo.heap.size u6 ((thK xs ys wl t k).2).length (((thK xs ys wl t k).2).map B) rfl HCwb3.out.o2 gS 1 5 (B (gB ys k)) rfl HgSwb3.out rfl (by have := HK1.out; omega) (by have := HK1.out; omega) HBwb3.out.size ?_
              intro vb4 wb4 hpwb4
              have HCwb4 := Lib.hid (HCwb3.out.app2 hpwb4)
              have HBwb4 : Hid (Below wo.heap.size wo wb4) := Lib.hid (HBwb3.out.grown hpwb4.2.1 HBwb3.out.size (fun q hq => own_base HCwb3.out.o2 q hq))
              refine hK _ _ (⟨cell_kept HBwb4.out HY1.out, cell_kept HBwb4.out HY2.out⟩) ?_
              clear hK K hpwb4
              iterate 2 (refine Text.bpurek rfl rfl (fun K hK => ⟨_, fun w' => by go_simp <;> rfl, ?_⟩); go_simp; refine hK _ ?_; clear hK K)
              refine Text.bdone ?_
              have HFF := Lib.hid (thI_push HTT.out HCwb4.out)
              go_wp2_with fail
              go_roundw
              case rel => exact ⟨k + 1, undef, undef, by omega, by go_num, HFF.out.1, Lib.hid HFF.out.2, HBwb4⟩
              case measure => simp [intOf]; omega
          · refine Text.beff rfl rfl (fun K hK => ?_)
            go_simp
            obtain ⟨gS, hggS⟩ : ∃ g, g = wd.heap.size := ⟨_, rfl⟩
            obtain ⟨wc1, hwwc1⟩ : ∃ w' : World, w' = wd.alloc (.cells #[B (gB ys k)] 5) := ⟨_, rfl⟩
            have kbwc1 : Below wd.heap.size wd wc1 := by rw [hwwc1]; exact (Below.refl _ _).alloc (Nat.le_refl _) _
            have HgSwc1 : Hid (Blk wc1 gS 5 #[B (gB ys k)]) := Lib.hid (by rw [hwwc1, hggS]; exact Blk.new _ _ _)
            have HCwc1 := Lib.hid (HCwd.out.kept kbwc1)
            have HBwc1 : Hid (Below wo.heap.size wo wc1) := Lib.hid (below_then HBwd.out kbwc1)
            have HFgSwc1 : Hid (∀ v : Value, (∀ q, v.ownBlock = some q → q < wd.heap.size) → v.ownBlock ≠ some gS) := Lib.hid (fun v h e => by have := h _ e; omega)
            have HLgSwc1 : Hid ((∀ q, u5.ownBlock = some q → q < wd.heap.size) ∧ ∀ q, u6.ownBlock = some q → q < wd.heap.size) := Lib.hid ⟨fun q h => (HCwd.out.o1.lt q h).2, fun q h => (HCwd.out.o2.lt q h).2⟩
            rw [← hwwc1, ← hggS]
            refine hK _ _ (⟨cell_kept HBwc1.out HY1.out, cell_kept HBwc1.out HY2.out⟩) ?_
            clear hK K kbwc1 hwwc1 hggS
            refine Text.beff rfl rfl (fun K hK => ?_)
            go_simp
            obtain ⟨gA, hggA⟩ : ∃ g, g = wc1.heap.size := ⟨_, rfl⟩
            obtain ⟨wc2, hwwc2⟩ : ∃ w' : World, w' = wc1.alloc (.cells #[B (gB xs k)] 5) := ⟨_, rfl⟩
            have kbwc2 : Below wc1.heap.size wc1 wc2 := by rw [hwwc2]; exact (Below.refl _ _).alloc (Nat.le_refl _) _
            have HgAwc2 : Hid (Blk wc2 gA 5 #[B (gB xs k)]) := Lib.hid (by rw [hwwc2, hggA]; exact Blk.new _ _ _)
            have HgSwc2 := Lib.hid (HgSwc1.out.kept kbwc2)
            have HCwc2 := Lib.hid (HCwc1.out.kept kbwc2)
            have HBwc2 : Hid (Below wo.heap.size wo wc2) := Lib.hid (below_then HBwc1.out kbwc2)
            have HFgAwc2 : Hid (∀ v : Value, (∀ q, v.ownBlock = some q → q < wc1.heap.size) → v.ownBlock ≠ some gA) := Lib.hid (fun v h e => by have := h _ e; omega)
            rw [← hwwc2, ← hggA]
            refine hK _ _ (⟨cell_kept HBwc2.out HY1.out, cell_kept HBwc2.out HY2.out⟩) ?_
            clear hK K kbwc2 hwwc2 hggA
            refine Text.beff rfl rfl (fun K hK => ?_)
            refine wp_app1 wc2 (.tmp 35) (.tmp 37) 22 5 (.int .u8 0) 1 Try.underlying22 infoU8 rfl rfl wo.heap.size u5 ((thK xs ys wl t k).1).length (((thK xs ys wl t k).1).map B) rfl HCwc2.out.o1 gA 1 5 (B (gB xs k)) rfl HgAwc2.out rfl (by have := HK1.out; omega) (by have := HK1.out; omega) HBwc2.out.size ?_
            intro vc3 wc3 hpwc3
            have HCwc3 := Lib.hid (HCwc2.out.app1 hpwc3)
            have HBwc3 : Hid (Below wo.heap.size wo wc3) := Lib.hid (HBwc2.out.grown hpwc3.2.1 HBwc2.out.size (fun q hq => own_base HCwc2.out.o1 q hq))
            have HgSwc3 := Lib.hid (grown_blk hpwc3.2.1 HgSwc2.out (HFgSwc1.out _ HLgSwc1.out.1))
            refine hK _ _ (⟨cell_kept HBwc3.out HY1.out, cell_kept HBwc3.out HY2.out⟩) ?_
            clear hK K hpwc3
            refine Text.beff rfl rfl (fun K hK => ?_)
            refine wp_app1 wc3 (.tmp 39) (.tmp 47) 22 5 (.int .u8 0) 1 Try.underlying22 infoU8 rfl rfl wo.heap.size u6 ((thK xs ys wl t k).2).length (((thK xs ys wl t k).2).map B) rfl HCwc3.out.o2 gS 1 5 (B (gB ys k)) rfl HgSwc3.out rfl (by have := HK1.out; omega) (by have := HK1.out; omega) HBwc3.out.size ?_
            intro vc4 wc4 hpwc4
            have HCwc4 := Lib.hid (HCwc3.out.app2 hpwc4)
            have HBwc4 : Hid (Below wo.heap.size wo wc4) := Lib.hid (HBwc3.out.grown hpwc4.2.1 HBwc3.out.size (fun q hq => own_base HCwc3.out.o2 q hq))
            refine hK _ _ (⟨cell_kept HBwc4.out HY1.out, cell_kept HBwc4.out HY2.out⟩) ?_
            clear hK K hpwc4
            iterate 2 (refine Text.bpurek rfl rfl (fun K hK => ⟨_, fun w' => by go_simp <;> rfl, ?_⟩); go_simp; refine hK _ ?_; clear hK K)
            refine Text.bdone ?_
            have HFF := Lib.hid (thI_push HTT.out HCwc4.out)
            go_wp2_with fail
            go_roundw
            case rel => exact ⟨k + 1, undef, undef, by omega, by go_num, HFF.out.1, Lib.hid HFF.out.2, HBwc4⟩
            case measure => simp [intOf]; omega
        · have q : decide ((m : Int) < (t : Int)) = false := by simp; omega
          have q' : decide (m < t) = false := by simpa using hmt
          have HT : Hid (thK xs ys wl t (k + 1) = thK xs ys wl t k) := Lib.hid (by rw [thK, if_neg (by rw [← HM.out]; omega)])
          go_wp2_with fail
          go_roundw
          case rel => exact ⟨k + 1, undef, undef, by omega, by go_num, ⟨A5, c5, by rw [HT.out, HM.out]⟩, Lib.hid (by rw [HT.out]; have := hr.out; rw [← HM.out] at this; exact this), hb⟩
          case measure => simp [intOf]; omega
    · obtain rfl : k = n := by omega
      obtain ⟨A6, c6, hv6, hb6⟩ := BS.of_own hr.out.o2 (by have h1 := thK_len xs ys wl t k; unfold lim; omega)
      obtain ⟨A7, c7, hv7, hb7⟩ := BS.of_own hr.out.o1 (by have h1 := thK_len xs ys wl t k; unfold lim; omega)
      injection hv7 with e1 e2 e3
      subst e1 e3
      rw [← (thK_len xs ys wl t k).1] at hv6 hb6
      subst hv6
      obtain ⟨m, hm⟩ : ∃ m, m = (thK xs ys wl t k).1.length := ⟨_, rfl⟩
      rw [← hm] at hb6 hb7 ⊢
      have HM6 := Lib.hid hb6
      have HM7 := Lib.hid hb7
      have hmn : m ≤ 1000 := by have h1 := (thK_len xs ys wl t k).2; have h2 := HN.out; omega
      have HR : Hid (Py.itP (thK xs ys wl t k).1 (thK xs ys wl t k).2 = thP xs ys wl t) := Lib.hid (by rw [thP, HLX.out])
      have HDT : Hid (Py.Dst (thK xs ys wl t k).1) := Lib.hid (by have := thK_dst ys wl t HD.out; rw [HLX.out] at this; exact this)
      clear hb6 hb7 hm hr e2
      go_wp2_with fail
      refine (interp_any _ _ m _ _ _ _ wr HM7.out HM6.out hmn HDT.out).mono ?_
      rintro e w2 ⟨v2, r2, rfl, hv2⟩
      rw [HR.out] at hv2
      obtain ⟨A2, n2, c2, rfl, h21, h22, h23⟩ := hv2
      have HG : Hid (GvB (thP xs ys wl t) wo (.slice A2 n2 c2) w2) := Lib.hid ⟨_, _, _, rfl, h21, (fun a e => Nat.le_trans hb.out.size (h22 a e)), below_then hb.out h23⟩
      clear h21 h22 h23
      go_wp2_with fail
      go_ret
      exact ⟨_, rfl, HG.out⟩
end Go.Proofs.Ytakedococfklgaa
