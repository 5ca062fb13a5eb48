/- Contract of the reference kinkeepref10.Fits. -/
import Derived.Test.YtakedococfklgaaFt1m
import Derived.Test.YtakedococfklgaaTh1m
import Derived.Deep.DeepCutAuto
namespace Go.Proofs.Ytakedococfklgaa
open Go.RowKit Gf

attribute [local go_sem] Gf.bv_toNat Gf.bv_wrap

/-- The coefficients when b bytes are done, and byte b for the rows below j. -/
def fiJ (s : List UInt8) (l : List (Int × List UInt8)) (b j : Nat) : List (List UInt8) := (List.range l.length).map fun r => tab (if r < j then b + 1 else b) fun q => gB (fiP s l q) (r + 1)
theorem fiJ_length (s : List UInt8) (l : List (Int × List UInt8)) (b j : Nat) : (fiJ s l b j).length = l.length := by simp [fiJ]
theorem gR_fiJ (s : List UInt8) (l : List (Int × List UInt8)) (b j : Nat) {r : Nat} (h : r < l.length) : gR (fiJ s l b j) r = tab (if r < j then b + 1 else b) fun q => gB (fiP s l q) (r + 1) := by
  rw [gR_eq (by rw [fiJ_length]; exact h)]; simp [fiJ]
theorem tab_snoc (n : Nat) (f : Nat → UInt8) : tab (n + 1) f = tab n f ++ [f n] := by unfold tab; rw [List.range_succ, List.map_append]; rfl
theorem fiJ_put (s : List UInt8) (l : List (Int × List UInt8)) (b j : Nat) (h : j < l.length) : (fiJ s l b j).set j (gR (fiJ s l b j) j ++ [gB (fiP s l b) (j + 1)]) = fiJ s l b (j + 1) := by
  refine gR_ext (by rw [List.length_set, fiJ_length, fiJ_length]) fun r hr => ?_
  rw [List.length_set, fiJ_length] at hr
  rw [gR_set' (by rw [fiJ_length]; exact h), gR_fiJ _ _ _ _ h, gR_fiJ _ _ _ _ hr, gR_fiJ _ _ _ _ hr]
  by_cases e : r = j
  · subst e
    rw [if_pos rfl, if_neg (by omega), if_pos (by omega), tab_snoc]
  · rw [if_neg e]
    by_cases h1 : r < j
    · rw [if_pos h1, if_pos (by omega)]
    · rw [if_neg h1, if_neg (by omega)]
theorem fiJ_next (s : List UInt8) (l : List (Int × List UInt8)) (b : Nat) : fiJ s l b l.length = fiJ s l (b + 1) 0 := by
  refine gR_ext (by rw [fiJ_length, fiJ_length]) fun r hr => ?_
  rw [fiJ_length] at hr
  rw [gR_fiJ _ _ _ _ hr, gR_fiJ _ _ _ _ hr, if_pos hr, if_neg (by omega)]
theorem fiJ_zero (s : List UInt8) (l : List (Int × List UInt8)) : fiJ s l 0 0 = List.replicate l.length [] := by
  refine gR_ext (by rw [fiJ_length, List.length_replicate]) fun r hr => ?_
  rw [fiJ_length] at hr
  rw [gR_fiJ _ _ _ _ hr, if_neg (by omega), gR_eq (by rw [List.length_replicate]; exact hr), List.getElem_replicate]; rfl
theorem fiJ_all (s : List UInt8) (l : List (Int × List UInt8)) : fiJ s l s.length 0 = fiM s l := by
  unfold fiJ fiM
  refine List.map_congr_left fun r _ => ?_
  rw [if_neg (by omega)]
theorem R2.two (base : Nat) (w : World) (x y : UInt8) (hb : base ≤ w.heap.size) : R2 base ((w.alloc (.cells #[B x] 5)).alloc (.cells #[B y] 5)) (.slice (some ⟨w.heap.size, 0, none⟩) 1 1) (.slice (some ⟨w.heap.size + 1, 0, none⟩) 1 1) [x] [y] := by
  refine ⟨ownsRow_mono (Kp.ownN ((Below.refl _ _).alloc (Nat.le_refl _) _) (own_one w x)) hb, ?_, fun g h h' => ?_⟩
  · have := own_one (w.alloc (.cells #[B x] 5)) y
    rw [World.size_alloc] at this
    exact ownsRow_mono this (by omega)
  · simp only [Value.ownBlock] at h h'
    injection h with h
    injection h' with h'
    omega
theorem own_thaw {w : World} {base : Nat} {e : TypeId} {g n c : Nat} {xs : List Value} (h : w.ownsRow base e 1 (.slice (some ⟨g, 0, none⟩) n c) n xs) (j : Nat) : w.frozen? ⟨g, j, none⟩ = false := by
  rcases h.2 with ⟨h1, _⟩ | ⟨g', cap, cur, e1, _, hh, _⟩
  · cases h1
  · injection e1 with e1 _ _
    injection e1 with e1
    injection e1 with e1 _
    subst e1
    simp [World.frozen?, hh]
/-- A slice lies away from the table. -/
def Away (A : Option Addr) (n6 g0 n : Nat) (vs : List Value) : Prop := 0 < n6 → ∀ a, A = some a → a.block ≠ g0 ∧ ∀ j, j < n → (gV vs j).ownBlock ≠ some a.block
theorem GT.keepB {w w1 : World} {base : Nat} {n c j g0 : Nat} {vs : List Value} {m : List (List UInt8)} {v' : Value} {x : UInt8} (h : GT w base (.slice (some ⟨g0, 0, none⟩) n c) n vs m) (hj : j < n) (hp : AppPost base 5 (gV vs j) (gR m j).length 1 ((gR m j).map B ++ [B x]) v' w w1)
    {A : Option Addr} {n6 c6 : Nat} {l : List UInt8} (hb : BS w A n6 c6 l) (ha : Away A n6 g0 n vs) : BS (w1.setCell ⟨g0, j, none⟩ v') A n6 c6 l ∧ Away A n6 g0 n (vs.set j v') := by
  have hK : Kp (fun b => (gV vs j).ownBlock = some b) w w1 := (Kp.refl _ _).grown hp.2.1 (fun _ e => .inl e)
  have hvl := h.vl
  refine ⟨⟨hb.1, hb.2.1, hb.2.2.1, fun i hi => ?_⟩, fun h0 a ea => ⟨(ha h0 a ea).1, fun i hi => ?_⟩⟩
  · obtain ⟨g, o, e, hc⟩ := hb.2.2.2 i hi
    obtain ⟨h1, h2⟩ := ha (by omega) _ e
    refine ⟨g, o, e, ?_⟩
    rw [World.cell?_setCell_other _ _ _ _ (by intro e9; injection e9 with e9 _; exact h1 e9.symm)]
    exact hK.cell hc (h2 j hj)
  · rw [gV_set (by omega)]
    by_cases e : i = j
    · rw [if_pos e]
      rcases hp.2.2 with h1 | h1
      · rw [h1]; exact (ha h0 a ea).2 j hj
      · rw [h1]
        obtain ⟨g, o, e2, hc⟩ := hb.2.2.2 0 h0
        rw [ea] at e2
        injection e2 with e2
        have := cell_lt hc
        rw [e2]
        intro e9
        injection e9 with e9
        simp only at e9 this
        omega
    · rw [if_neg e]; exact (ha h0 a ea).2 i hi
theorem R2.swap {base : Nat} {w : World} {v1 v2 : Value} {a b : List UInt8} (h : R2 base w v1 v2 a b) : R2 base w v2 v1 b a := ⟨h.o2, h.o1, fun g h1 h2 => h.d g h2 h1⟩

set_option maxRecDepth 100000 in
set_option maxHeartbeats 4000000 in
theorem rfits_any (As A : Option Addr) (ns cs n c : Nat) (s : List UInt8) (l : List (Int × List UInt8)) (w : World) (hs : BS w As ns cs s) (h : SS w A n c l) (hn15 : n ≤ 15) (hE : Eql l ns) (hL : ns ≤ 100000) (hx : ∀ k, k < n → 1 ≤ (gS l k).1 ∧ (gS l k).1 ≤ 255) (hd : Py.Dst (fiX l)) :
    Calls Try.prog 37 #[.slice As ns cs, .slice A n c] w fun e w' => ∃ v vs, e = .returned v ∧ GT w' w.heap.size v n vs (fiM s l) ∧ Below w.heap.size w w' := by
  have hn := h.len_le
  have hns := hs.len_le
  have H := Lib.hid h
  have HS := Lib.hid hs
  have HLn := Lib.hid h.1
  have HLs := Lib.hid hs.1
  have HN := Lib.hid hn15
  have HE := Lib.hid hE
  have HX := Lib.hid hx
  have HD := Lib.hid hd
  have HLL := Lib.hid hL
  clear h hs hE hx hd hL
  go_enter Try.func37, Try.ntmps37
  go_wp2_with fail
  have HB0 : Hid (Below w.heap.size w (w.alloc (.cells #[] 22))) := Lib.hid ((Below.refl _ _).alloc (Nat.le_refl _) _)
  have HG0 : Hid (GT (w.alloc (.cells #[] 22)) w.heap.size (.slice (some ⟨w.heap.size, 0, none⟩) 0 0) 0 [] []) := Lib.hid ⟨rfl, rfl, World.ownsRow_lit w #[] 0 (Nat.le_refl _) (by simp [maxLen]) rfl, fun j hj => absurd hj (by omega), fun i j hi => absurd hi (by omega), fun j hj => absurd hj (by omega)⟩
  go_loopw [5, 16] (fun v i wr => ∃ (k g0 c0 : Nat) (vs : List Value), k ≤ n ∧ i = .int .i64 (k : Int) ∧ v = .slice (some ⟨g0, 0, none⟩) k c0 ∧ Hid (GT wr w.heap.size (.slice (some ⟨g0, 0, none⟩) k c0) k vs (List.replicate k [])) ∧ Hid (Below w.heap.size w wr)) (fun _ i _ => n - (intOf i).toNat)
  case atStart => exact ⟨0, w.heap.size, 0, [], by omega, rfl, rfl, HG0, HB0⟩
  case round =>
    clear HB0 HG0
    obtain ⟨k, g0, c0, vs, hk, rfl, rfl, hg, hb⟩ := hrel
    by_cases hlt : k < n
    · obtain ⟨W, hW⟩ : ∃ W, W = (wr.alloc (.cells #[] 5)).alloc (.cells #[.slice (some ⟨wr.heap.size, 0, none⟩) 0 0] 22) := ⟨_, rfl⟩
      have hbW : Below wr.heap.size wr W := by rw [hW]; exact below_then (kb1 _ _) (kb1 _ _)
      have HKW : Hid (Blk W wr.heap.size 5 #[]) := Lib.hid (by rw [hW]; exact (Blk.new _ _ _).alloc _)
      have HK2 : Hid (Blk W (wr.heap.size + 1) 22 #[.slice (some ⟨wr.heap.size, 0, none⟩) 0 0]) := Lib.hid (by rw [hW]; exact blk_at (by simp) _ _)
      have HGW := Lib.hid (hg.out.kept hbW)
      have HLT : Hid (∀ j, j < k → ∀ b, (gV vs j).ownBlock = some b → b < wr.heap.size) := Lib.hid (fun j hj b hb' => ((hg.out.row j hj).lt b hb').2)
      have HLO : Hid (∀ b, (Value.slice (some ⟨g0, 0, none⟩) k c0).ownBlock = some b → b < wr.heap.size) := Lib.hid (fun b hb' => (hg.out.out.lt b hb').2)
      have HBB : Hid (∀ b, (Value.slice (some ⟨g0, 0, none⟩) k c0).ownBlock = some b → w.heap.size ≤ b) := Lib.hid (fun b hb' => (hg.out.out.lt b hb').1)
      have HSZ := Lib.hid hb.out.size
      have HBW := Lib.hid (below_then hb.out hbW)
      have HWE := Lib.hid hW
      have HK24 : Hid ((k + 1) * 24 ≤ 140737488355328 ∧ k < 140737488355328) := Lib.hid (by have := HN.out; omega)
      clear hbW hW hg hb
      go_wp2_with (first
        | (at_builtin; rw [← HWE.out]; refine wpList_app1 W rfl (.tmp 18) (.tmp 20) 23 22 (.slice none 0 0) 24 Try.underlying23 infoBytes rfl rfl w.heap.size (.slice (some ⟨g0, 0, none⟩) k c0) k vs rfl HGW.out.out (wr.heap.size + 1) 1 22 (.slice (some ⟨wr.heap.size, 0, none⟩) 0 0) rfl HK2.out rfl HK24.out.1 HK24.out.2 HBW.out.size ?_; intro v6 w6 hp6))
      have hg6 := HGW.out.push HKW.out HSZ.out HLT.out HLO.out hp6
      have HB6 : Hid (Below w.heap.size w w6) := Lib.hid (HBW.out.grown hp6.2.1 HBW.out.size HBB.out)
      obtain ⟨m6, g6, cap6, hm6, rfl⟩ := own_form (by omega) hp6.1
      subst hm6
      have HG6 : Hid (GT w6 w.heap.size (.slice (some ⟨g6, 0, none⟩) (k + 1) cap6) (k + 1) (vs ++ [.slice (some ⟨wr.heap.size, 0, none⟩) 0 0]) (List.replicate (k + 1) [])) := Lib.hid (by rw [List.replicate_succ']; exact hg6)
      clear hp6 hg6
      go_wp2_with fail
      go_roundw
      case rel => exact ⟨k + 1, g6, cap6, _, by omega, by go_num, rfl, HG6, HB6⟩
      case measure => simp [intOf]; omega
    · obtain rfl : k = n := by omega
      have HG1 : Hid (GT wr w.heap.size (.slice (some ⟨g0, 0, none⟩) k c0) k vs (fiJ s l 0 0)) := Lib.hid (by rw [fiJ_zero, HLn.out]; exact hg.out)
      have HB1 := hb
      clear hg hb
      go_wp2_with fail
      go_loopw [25] (fun i wr => ∃ (b : Nat) (vs : List Value), b ≤ ns ∧ i = .int .i64 (b : Int) ∧ Hid (GT wr w.heap.size (.slice (some ⟨g0, 0, none⟩) k c0) k vs (fiJ s l b 0)) ∧ Hid (Below w.heap.size w wr)) (fun i _ => ns - (intOf i).toNat)
      case atStart => exact ⟨0, vs, by omega, rfl, HG1, HB1⟩
      case round =>
        clear HG1 HB1
        obtain ⟨b, vs2, hb', rfl, hg, hb⟩ := hrel
        by_cases hbn : b < ns
        · obtain ⟨wy, rfl⟩ : ∃ wy : World, wy = wr := ⟨_, rfl⟩
          obtain ⟨gs, os, rfl, hc0⟩ := HS.out.at_ hb.out hbn
          obtain ⟨y0, hy0⟩ : ∃ y, y = gB s b := ⟨_, rfl⟩
          rw [← hy0] at hc0
          have HY0 := Lib.hid hy0
          clear hy0
          go_wp2_with fail
          go_cut [7, 8] (fun s7 s8 wx => ∃ g7 g8 : Nat, s7 = .slice (some ⟨g7, 0, none⟩) 1 1 ∧ s8 = .slice (some ⟨g8, 0, none⟩) 1 1 ∧ Hid (R2 wy.heap.size wx (.slice (some ⟨g7, 0, none⟩) 1 1) (.slice (some ⟨g8, 0, none⟩) 1 1) [0] [y0]) ∧ Hid (Below wy.heap.size wy wx))
          case first =>
            refine Text.wp_region_bt (fun w' => w'.cell? ⟨gs, os + b, none⟩ = some (.int .u8 (bv y0))) (.still 1 4 (.still 2 4 (.still 3 4 (.still 4 0 (.br 0 (.still 6 4 (.eff 5 (.still 7 4 .leaf))) 5 (.eff 0 (.still 6 4 (.still 7 4 .leaf)))))))) (by kernel_rfl) (by kernel_rfl) (fun _ _ _ _ _ h => h) (hc0) ?_
            iterate 3 (refine Text.bpurek rfl rfl (fun K hK => ⟨_, fun w' => by go_simp <;> rfl, ?_⟩); go_simp; refine hK _ ?_; clear hK K)
            (refine Text.bheldk rfl rfl (fun K hK => ⟨_, fun w' hw' => by go_simp <;> rfl, ?_⟩); go_simp; refine hK _ ?_; clear hK K)
            have HC0 := Lib.hid hc0
            refine Text.bfork ?_ ?_
            · refine Text.beff rfl rfl (fun K hK => ?_)
              go_simp
              refine hK _ _ (cell_kept (kb1 wy.drew _) HC0.out) ?_
              clear hK K
              (refine Text.bpurek rfl rfl (fun K hK => ⟨_, fun w' => by go_simp <;> rfl, ?_⟩); go_simp; refine hK _ ?_; clear hK K)
              refine Text.beff rfl rfl (fun K hK => ?_)
              go_simp
              refine hK _ _ (cell_kept (kb1 _ _) (cell_kept (kb1 wy.drew _) HC0.out)) ?_
              clear hK K
              (refine Text.bpurek rfl rfl (fun K hK => ⟨_, fun w' => by go_simp <;> rfl, ?_⟩); go_simp; refine hK _ ?_; clear hK K)
              refine Text.bdone ?_
              go_wp2_with fail
              go_meet
              exact ⟨_, _, rfl, rfl, Lib.hid (R2.two _ wy 0 y0 (Nat.le_refl _)).drew, Lib.hid (below_then (kb1 wy _) (kb1 _ _)).drew⟩
            · refine Text.beff rfl rfl (fun K hK => ?_)
              go_simp
              refine hK _ _ (cell_kept (kb1 wy.drew _) HC0.out) ?_
              clear hK K
              refine Text.beff rfl rfl (fun K hK => ?_)
              go_simp
              refine hK _ _ (cell_kept (kb1 _ _) (cell_kept (kb1 wy.drew _) HC0.out)) ?_
              clear hK K
              iterate 2 (refine Text.bpurek rfl rfl (fun K hK => ⟨_, fun w' => by go_simp <;> rfl, ?_⟩); go_simp; refine hK _ ?_; clear hK K)
              refine Text.bdone ?_
              go_wp2_with fail
              go_meet
              exact ⟨_, _, rfl, rfl, Lib.hid (R2.two _ wy y0 0 (Nat.le_refl _)).swap.drew, Lib.hid (below_then (kb1 wy _) (kb1 _ _)).drew⟩
          case rest =>
            obtain ⟨g7, g8, rfl, rfl, hr7, hb7⟩ := hcut
            clear hc0
            go_wp2_with fail
            go_loopw [7, 8, 36] (fun v v' j wr => ∃ (i m1 m2 : Nat) (A1 A2 : Option Addr) (c1 c2 : Nat), i ≤ k ∧ j = .int .i64 (i : Int) ∧ m1 = i + 1 ∧ m2 = i + 1 ∧ v = .slice A1 m1 c1 ∧ v' = .slice A2 m2 c2 ∧ Hid (R2 wy.heap.size wr (.slice A1 m1 c1) (.slice A2 m2 c2) (0 :: (coX l).take i) (y0 :: (coY l b).take i)) ∧ Hid (Below wy.heap.size wy wr)) (fun _ _ j _ => k - (intOf j).toNat)
            case atStart => exact ⟨0, 1, 1, _, _, 1, 1, by omega, rfl, rfl, rfl, rfl, rfl, hr7, hb7⟩
            case round =>
              clear hr7 hb7
              obtain ⟨i, m1, m2, A1, A2, c1, c2, hi, rfl, hm1, hm2, rfl, rfl, hr, hb2⟩ := hrel
              subst hm1
              subst hm2
              by_cases hlk : i < k
              · obtain ⟨g3, o3, A3, n3, c3, rfl, q1, q2, q3⟩ := H.out.at_ (below_then hb.out hb2.out) hlk
                obtain rfl : n3 = ns := by rw [← q3.1]; exact HE.out i (by rw [HLn.out]; exact hlk)
                obtain ⟨g4, o4, rfl, q4⟩ := q3.at_ (Below.refl _ _) hbn
                obtain ⟨x, hx⟩ : ∃ x, x = gX l i := ⟨_, rfl⟩
                obtain ⟨y, hy⟩ : ∃ y, y = gB (gS l i).2 b := ⟨_, rfl⟩
                have HXV : Hid ((gS l i).1 = bv x) := Lib.hid (by rw [hx]; exact gX_eq (by have := HX.out i hlk; omega) (by have := HX.out i hlk; omega))
                rw [HXV.out] at q1
                rw [← hy] at q4
                have HTX : Hid (0 :: (coX l).take (i + 1) = (0 :: (coX l).take i) ++ [x]) := Lib.hid (by rw [coX_take (by rw [HLn.out]; exact hlk), hx]; rfl)
                have HTY : Hid (y0 :: (coY l b).take (i + 1) = (y0 :: (coY l b).take i) ++ [y]) := Lib.hid (by rw [coY_take (by rw [HLn.out]; exact hlk), hy]; rfl)
                have hxw := bv_wrap x
                have hx0 := bv_lo x
                have hx1 := bv_hi x
                have hbs := kb1 wr (.cells #[.int .i64 (bv x), .slice (some ⟨g4, o4, none⟩) n3 c3] 33)
                have ks := Blk.new wr 33 #[.int .i64 (bv x), .slice (some ⟨g4, o4, none⟩) n3 c3]
                have hb6 := kb1 (wr.alloc (.cells #[.int .i64 (bv x), .slice (some ⟨g4, o4, none⟩) n3 c3] 33)) (.cells #[B x] 5)
                have HR6 := Lib.hid ((hr.out.kept hbs).kept hb6)
                have HBb := Lib.hid (below_then hb2.out (below_then hbs hb6))
                have HKS := Lib.hid (ks.kept hb6)
                have HBK : Hid (BS ((wr.alloc (.cells #[.int .i64 (bv x), .slice (some ⟨g4, o4, none⟩) n3 c3] 33)).alloc (.cells #[B x] 5)) (some ⟨wr.heap.size + 1, 0, none⟩) 1 1 [x]) := Lib.hid (bs1 (blk_at (by simp) _ _))
                have HLX : Hid ((0 :: (coX l).take i).length = i + 1) := Lib.hid (by rw [List.length_cons, List.length_take, coX, tab_length, HLn.out]; omega)
                have HLY : Hid ((y0 :: (coY l b).take i).length = i + 1) := Lib.hid (by rw [List.length_cons, List.length_take, coY, tab_length, HLn.out]; omega)
                have HO1 := Lib.hid (HR6.out.o1)
                rw [HLX.out] at HO1
                have HM1 : Hid (i + 1 + 1 ≤ 140737488355328) := Lib.hid (by have := HN.out; omega)
                have HQ : Hid (∀ w', Below w.heap.size w w' → w'.cell? ⟨g4, o4 + b, none⟩ = some (B y)) := Lib.hid (fun w' hw' => by
                  obtain ⟨_, _, A9, n9, c9, e9, s1, s2, s3⟩ := H.out.2.2.2 i hlk
                  cases e9
                  have t2 := cell_kept (below_then hb.out hb2.out) s2
                  rw [q2] at t2
                  injection t2 with t2
                  injection t2 with f1 f2 f3
                  subst f1 f2 f3
                  obtain ⟨_, _, e8, s8⟩ := s3.at_ hw' hbn
                  cases e8
                  rw [← hy] at s8
                  exact s8)
                have FIN : Hid (∀ v6 w6, AppPost wy.heap.size 5 (.slice A1 (i + 1) c1) (i + 1) 1 (((0 :: (coX l).take i) ++ [x]).map B) v6 ((wr.alloc (.cells #[.int .i64 (bv x), .slice (some ⟨g4, o4, none⟩) n3 c3] 33)).alloc (.cells #[B x] 5)) w6 → ∃ g6 cap6, v6 = .slice (some ⟨g6, 0, none⟩) (i + 1 + 1) cap6 ∧ Hid (R2 wy.heap.size (w6.alloc (.cells #[B y] 5)) (.slice (some ⟨g6, 0, none⟩) (i + 1 + 1) cap6) (.slice A2 (i + 1) c2) ((0 :: (coX l).take i) ++ [x]) (y0 :: (coY l b).take i)) ∧ Hid ((w6.alloc (.cells #[B y] 5)).ownsRow wy.heap.size 5 1 (.slice A2 (i + 1) c2) (i + 1) ((y0 :: (coY l b).take i).map B)) ∧ Hid (BS (w6.alloc (.cells #[B y] 5)) (some ⟨w6.heap.size, 0, none⟩) 1 1 [y]) ∧ Hid (Below wy.heap.size wy (w6.alloc (.cells #[B y] 5))) ∧ w6.cell? ⟨wr.heap.size, 1, none⟩ = some (.slice (some ⟨g4, o4, none⟩) n3 c3) ∧ w6.cell? ⟨g4, o4 + b, none⟩ = some (B y)) := Lib.hid (fun v6 w6 hp6 => by
                  have hr7 : R2 wy.heap.size w6 v6 (.slice A2 (i + 1) c2) ((0 :: (coX l).take i) ++ [x]) (y0 :: (coY l b).take i) := HR6.out.app1 (by rw [HLX.out]; rw [List.map_append] at hp6; exact hp6)
                  obtain ⟨m6, g6, cap6, hm6, rfl⟩ := own_form (by omega) hp6.1
                  subst hm6
                  have hb16 : Below wy.heap.size wy w6 := HBb.out.grown hp6.2.1 HBb.out.size (fun b hb' => own_base HO1.out b hb')
                  have hks6 := grown_blk hp6.2.1 HKS.out (own_ne HO1.out HKS.out (by decide))
                  have hb7 := kb1 w6 (.cells #[B y] 5)
                  have hr8 := hr7.kept hb7
                  have ho2 := hr8.o2
                  rw [HLY.out] at ho2
                  exact ⟨g6, cap6, rfl, Lib.hid hr8, Lib.hid ho2, Lib.hid (bs1 (Blk.new w6 _ _)), Lib.hid (below_then hb16 hb7), by rw [hks6.cell]; rfl, HQ.out w6 (below_then hb.out hb16)⟩)
                clear hx hy q3 q4 hbs ks hb6
                go_wp2_with (first
                  | (at_builtin; refine wpList_appB _ rfl (.tmp 40) (.tmp 44) rfl wy.heap.size (.slice A1 (i + 1) c1) (i + 1) _ rfl HO1.out _ 1 1 [x] rfl HBK.out HM1.out HBb.out.size ?_; intro v6 w6 hp6; obtain ⟨g6, cap6, rfl, HR7, HO2, HBK2, HB7, p1, p2⟩ := FIN.out v6 w6 hp6; clear hp6)
                  | (at_builtin; refine wpList_appB _ rfl (.tmp 46) (.tmp 52) rfl wy.heap.size (.slice A2 (i + 1) c2) (i + 1) _ rfl HO2.out _ 1 1 [y] rfl HBK2.out HM1.out HB7.out.size ?_; intro v8 w8 hp8))
                have hr9 : R2 wy.heap.size w8 (.slice (some ⟨g6, 0, none⟩) (i + 1 + 1) cap6) v8 ((0 :: (coX l).take i) ++ [x]) ((y0 :: (coY l b).take i) ++ [y]) := HR7.out.app2 (by rw [HLY.out]; rw [List.map_append] at hp8; exact hp8)
                obtain ⟨m8, g8, cap8, hm8, rfl⟩ := own_form (by omega) hp8.1
                subst hm8
                have HB8 : Hid (Below wy.heap.size wy w8) := Lib.hid (HB7.out.grown hp8.2.1 HB7.out.size (fun b hb' => own_base HO2.out b hb'))
                have HR9 : Hid (R2 wy.heap.size w8 (.slice (some ⟨g6, 0, none⟩) (i + 1 + 1) cap6) (.slice (some ⟨g8, 0, none⟩) (i + 1 + 1) cap8) (0 :: (coX l).take (i + 1)) (y0 :: (coY l b).take (i + 1))) := Lib.hid (by rw [HTX.out, HTY.out]; exact hr9)
                clear hp8 hr9 p1 p2
                go_roundw
                case rel => exact ⟨i + 1, i + 1 + 1, i + 1 + 1, _, _, cap6, cap8, by omega, by go_num, rfl, rfl, rfl, rfl, HR9, HB8⟩
                case measure => simp [intOf]; omega
              · obtain rfl : i = k := by omega
                have hr0 := hr.out
                rw [List.take_of_length_le (by rw [coX, tab_length, HLn.out]; exact Nat.le_refl _), List.take_of_length_le (by rw [coY, tab_length, HLn.out]; exact Nat.le_refl _)] at hr0
                have o1 := hr0.o1
                have o2 := hr0.o2
                rw [show (0 :: coX l).length = i + 1 by rw [List.length_cons, coX, tab_length, HLn.out]] at o1
                rw [show (y0 :: coY l b).length = i + 1 by rw [List.length_cons, coY, tab_length, HLn.out]] at o2
                obtain ⟨_, _, e1, b1⟩ := BS.of_own o1 (by have := HN.out; unfold lim; omega)
                cases e1
                obtain ⟨_, _, e2, b2⟩ := BS.of_own o2 (by have := HN.out; unfold lim; omega)
                cases e2
                have HBX : Hid (BS wr A1 (i + 1) c1 (fiX l)) := Lib.hid b1
                have HBY : Hid (BS wr A2 (i + 1) c2 (fiY s l b)) := Lib.hid (by unfold fiY; rw [← HY0.out]; exact b2)
                have HGY := Lib.hid (hg.out.kept hb2.out)
                have HBw := Lib.hid (below_then hb.out hb2.out)
                have H1000 : Hid (i + 1 ≤ 1000) := Lib.hid (by have := HN.out; omega)
                clear hr0 o1 o2 b1 b2 hr
                go_wp2_with fail
                refine (rinterp_any A1 A2 (i + 1) c1 c2 (fiX l) (fiY s l b) wr HBX.out HBY.out H1000.out HD.out).mono ?_
                rintro e w6 ⟨v6, rfl, A6, n6, c6, rfl, hb6, ha6, hx6⟩
                have HP6 : Hid (BS w6 A6 n6 c6 (fiP s l b) ∧ Away A6 n6 g0 i vs2) := Lib.hid ⟨hb6, fun _ a ea => ⟨fun e9 => by
                    have h1 := ha6 a ea
                    have h2 := (HGY.out.out.lt g0 rfl).2
                    omega, fun j hj e9 => by
                    have h1 := ha6 a ea
                    have h2 := ((HGY.out.row j hj).lt _ e9).2
                    omega⟩⟩
                have HG6 := Lib.hid (HGY.out.kept hx6)
                have HB6 := Lib.hid (below_then HBw.out hx6)
                clear hb6 ha6 hx6
                go_wp2_with fail
                go_loopw [60] (fun j wr => ∃ (r : Nat) (vs3 : List Value), r ≤ i ∧ j = .int .i64 (r : Int) ∧ Hid (GT wr w.heap.size (.slice (some ⟨g0, 0, none⟩) i c0) i vs3 (fiJ s l b r)) ∧ Hid (Below w.heap.size w wr) ∧ Hid (BS wr A6 n6 c6 (fiP s l b) ∧ Away A6 n6 g0 i vs3)) (fun j _ => i - (intOf j).toNat)
                case atStart => exact ⟨0, vs2, by omega, rfl, HG6, HB6, HP6⟩
                case round =>
                  clear HG6 HB6 HP6
                  obtain ⟨r, vs3, hr', rfl, hg3, hb3, hp3⟩ := hrel
                  by_cases hri : r < i
                  · obtain ⟨Z, hZ⟩ : ∃ Z, Z = fiJ s l b r := ⟨_, rfl⟩
                    have hln : (gR Z r).length = b := by rw [hZ, gR_fiJ _ _ _ _ (by rw [HLn.out]; exact hri), tab_length, if_neg (by omega)]
                    have HPUT : Hid (Z.set r (gR Z r ++ [gB (fiP s l b) (r + 1)]) = fiJ s l b (r + 1)) := Lib.hid (by rw [hZ]; exact fiJ_put s l b r (by rw [HLn.out]; exact hri))
                    rw [← hZ] at hg3
                    have hrow := hg3.out.row r hri
                    obtain ⟨Ar, cr, er⟩ : ∃ A c, gV vs3 r = .slice A b c := by
                      obtain ⟨A9, c9, e9, _⟩ := BS.of_own hrow (by rw [hln]; have := HLL.out; unfold lim; omega)
                      rw [hln] at e9
                      exact ⟨A9, c9, e9⟩
                    have hcell : wr.cell? ⟨g0, r, none⟩ = some (.slice Ar b cr) := by rw [hg3.out.out.cellAt r (by omega), gV_eq (by rw [hg3.out.vl]; exact hri), er]
                    obtain ⟨q, hq⟩ : ∃ q, q = gB (fiP s l b) (r + 1) := ⟨_, rfl⟩
                    have HQE := Lib.hid hq
                    have HAT : Hid (Calls Try.prog 59 #[.slice A6 n6 c6, .int .i64 ((r : Int) + 1)] wr.drew fun e w' => e = .returned (B q) ∧ wr.drew = w') := Lib.hid (by
                      have := rat_any A6 n6 c6 (fiP s l b) (r + 1) wr.drew hp3.out.1.drew
                      rw [← hq] at this
                      exact this)
                    have HER := Lib.hid er
                    have HLN := Lib.hid hln
                    have HZE := Lib.hid hZ
                    have HG3 := hg3
                    have HC3 := Lib.hid hcell
                    have hbnd : (r : Int) < (i : Int) := by omega
                    have wr1 : IntKind.i64.wrap ((r : Int) + 1) = (r : Int) + 1 := by rw [IntKind.wrap_i64]; have := HN.out; omega
                    have hb64 : (b : Int) ≤ 100000 := by have := HLL.out; omega
                    clear hrow er hln hq hZ hg3
                    go_wp2_with fail
                    refine Text.wp_region_text (fun w' => w'.cell? ⟨g0, r, none⟩ = some (.slice Ar b cr)) [(0, 4), (1, 4), (2, 4), (3, 4), (4, 4), (6, 4), (7, 4), (8, 4), (5, 0), (9, 1), (10, 2), (11, 3), (12, 4), (13, 3)] (by kernel_rfl) (by kernel_rfl) (fun _ _ _ _ _ h => h) (hcell) ?_
                    iterate 8 (refine Text.purek rfl rfl (fun K hK => ⟨_, fun w' => by go_simp <;> rfl, ?_⟩); go_simp; refine hK _ ?_; clear hK K)
                    (refine Text.heldk rfl rfl (fun K hK => ⟨_, fun w' hw' => by go_simp <;> rfl, ?_⟩); go_simp; refine hK _ ?_; clear hK K)
                    refine Text.quietk rfl rfl (fun K hK => ?_)
                    refine ⟨_, _, _, by first | (go_simp; exact ⟨rfl, rfl⟩) | (go_simp <;> rfl), HAT.out, ?_⟩
                    go_simp
                    refine hK _ ?_
                    clear hK K
                    refine Text.eff rfl rfl (fun K hK => ?_)
                    go_simp
                    obtain ⟨W1, hW1⟩ : ∃ W, W = (wr.alloc (.cells #[B q] 5)).drew := ⟨_, rfl⟩
                    have hbW : Below wr.heap.size wr W1 := by rw [hW1]; exact (kb1 _ _).drew
                    have HGW := Lib.hid (HG3.out.kept hbW)
                    have HBK : Hid (BS W1 (some ⟨wr.heap.size, 0, none⟩) 1 1 [q]) := Lib.hid (by rw [hW1]; exact bs1 (Blk.new wr _ _))
                    have HPW : Hid (BS W1 A6 n6 c6 (fiP s l b) ∧ Away A6 n6 g0 i vs3) := Lib.hid ⟨hp3.out.1.kept hbW, hp3.out.2⟩
                    have HBW := Lib.hid (below_then hb3.out hbW)
                    have HC4 := Lib.hid (cell_kept hbW hcell)
                    have HOW : Hid (W1.ownsRow w.heap.size 5 1 (.slice Ar b cr) b ((gR Z r).map B)) := Lib.hid (by have := HGW.out.row r hri; rw [HER.out, HLN.out] at this; exact this)
                    have HB1' : Hid (b + 1 ≤ 140737488355328) := Lib.hid (by have := HLL.out; omega)
                    rw [← hW1]
                    refine hK _ _ HC4.out ?_
                    clear hK K hbW hW1 hcell
                    refine Text.last rfl rfl (fun K hK => ?_)
                    refine wp_appB W1 (.tmp 68) (.tmp 73) rfl w.heap.size (.slice Ar b cr) b (gR Z r) rfl HOW.out _ 1 1 [q] rfl HBK.out HB1'.out HBW.out.size ?_
                    intro v7 w7 hp7
                    have hp8 : AppPost w.heap.size 5 (gV vs3 r) (gR Z r).length 1 ((gR Z r).map B ++ [B q]) v7 W1 w7 := by
                      rw [HER.out, HLN.out]; rw [List.map_append] at hp7; exact hp7
                    have hK7 : Kp (fun x => (gV vs3 r).ownBlock = some x) W1 w7 := (Kp.refl _ _).grown hp8.2.1 (fun _ e => .inl e)
                    have hout7 := Kp.own hK7 HGW.out.out (fun x h1 h2 => HGW.out.fo r hri x h1 h2)
                    have hfz := own_thaw hout7 r
                    have hc7 : w7.cell? ⟨g0, r, none⟩ = some (.slice Ar b cr) := hK7.cell HC4.out (fun e9 => HGW.out.fo r hri g0 rfl e9)
                    have hg8 := HGW.out.put hri hp8
                    have hk8 := HGW.out.keepB hri hp8 HPW.out.1 HPW.out.2
                    rw [HQE.out, HPUT.out] at hg8
                    have hb8 : Below w.heap.size w (w7.setCell ⟨g0, r, none⟩ v7) := (HBW.out.grown hp8.2.1 HBW.out.size (fun x hx' => ((HGW.out.row r hri).lt x hx').1)).setCell (HGW.out.out.lt g0 rfl).1 _
                    obtain ⟨m7, g9, cap7, hm7, rfl⟩ := own_form (by omega) hp7.1
                    have HG8 := Lib.hid hg8
                    have HK8 := Lib.hid hk8
                    have HB8 := Lib.hid hb8
                    clear hp7 hp8 hK7 hout7 hg8 hk8 hb8 hm7
                    refine hK _ _ ?_
                    clear hK K
                    (refine Text.purek rfl rfl (fun K hK => ⟨_, fun w' => by go_simp <;> rfl, ?_⟩); go_simp; refine hK _ ?_; clear hK K)
                    refine Text.last rfl rfl (fun K hK => ?_)
                    go_simp
                    refine hK _ _ ?_
                    clear hK K
                    refine Text.done ?_
                    go_wp2_with fail
                    go_roundw
                    case rel => exact ⟨r + 1, _, by omega, by go_num, HG8, HB8, HK8⟩
                    case measure => simp [intOf]; omega
                  · obtain rfl : r = i := by omega
                    have HG9 : Hid (GT wr w.heap.size (.slice (some ⟨g0, 0, none⟩) r c0) r vs3 (fiJ s l (b + 1) 0)) := Lib.hid (by rw [← fiJ_next, HLn.out]; exact hg3.out)
                    go_wp2_with fail
                    go_roundw
                    case rel => exact ⟨b + 1, vs3, by omega, by go_num, HG9, hb3⟩
                    case measure => simp [intOf]; omega
        · obtain rfl : b = ns := by omega
          have HF : Hid (GT wr w.heap.size (.slice (some ⟨g0, 0, none⟩) k c0) k vs2 (fiM s l)) := Lib.hid (by rw [← fiJ_all, HLs.out]; exact hg.out)
          go_wp2_with fail
          go_ret
          exact ⟨_, _, rfl, HF.out, hb.out⟩
end Go.Proofs.Ytakedococfklgaa
