/- Contract of the reference kinkeepref10.Through. -/
import Derived.Test.YtakedococfklgaaTh0m
namespace Go.Proofs.Ytakedococfklgaa
open Go.RowKit Gf

theorem coX_take {l : List (Int × List UInt8)} {k : Nat} (h : k < l.length) : (coX l).take (k + 1) = (coX l).take k ++ [gX l k] := by
  have h1 : k < (coX l).length := by rw [coX, tab_length]; exact h
  rw [List.take_succ_eq_append_getElem h1, ← gB_eq h1, coX, gB_tab _ h]
theorem coY_take {l : List (Int × List UInt8)} {b k : Nat} (h : k < l.length) : (coY l b).take (k + 1) = (coY l b).take k ++ [gB (gS l k).2 b] := by
  have h1 : k < (coY l b).length := by rw [coY, tab_length]; exact h
  rw [List.take_succ_eq_append_getElem h1, ← gB_eq h1, coY, gB_tab _ h]
def ThRet (m : List (List UInt8)) (w : World) (e : Ending) (w' : World) : Prop := ∃ v, e = .returned v ∧ OwnR w' w.heap.size v m.length m ∧ Below w.heap.size w w'

set_option maxRecDepth 100000 in
set_option maxHeartbeats 2000000 in
theorem rthrough_any (A : Option Addr) (n c L : Nat) (l : List (Int × List UInt8)) (w : World) (h : SS w A n c l) (h64 : n ≤ 64) (hE : Eql l L) (hL : L ≤ 100000) (hx : ∀ k, k < n → 1 ≤ (gS l k).1 ∧ (gS l k).1 ≤ 255) (hd : Py.Dst (coX l)) :
    Calls Try.prog 51 #[.slice A n c, .int .i64 (L : Int)] w (ThRet (shgK l L) w) := by
  have hn := h.len_le
  have H := Lib.hid h
  have HLn := Lib.hid h.1
  have H64 := Lib.hid h64
  have HE := Lib.hid hE
  have HX := Lib.hid hx
  have HD := Lib.hid hd
  have HLL := Lib.hid hL
  have hLb : (L : Int) ≤ 100000 := by omega
  clear h h64 hE hx hd hL
  go_enter Try.func51, Try.ntmps51
  go_wp2_with fail
  go_loopw [5, 6] (fun v i wr => ∃ k : Nat, k ≤ L ∧ i = .int .i64 (k : Int) ∧ Hid (OwnR wr w.heap.size v k (shgK l k)) ∧ Hid (Below w.heap.size w wr)) (fun _ i _ => L - (intOf i).toNat)
  case atStart => exact ⟨0, by omega, rfl, Lib.hid (OwnR.nil _ _), Lib.hid (Below.refl _ _)⟩
  case round =>
    obtain ⟨b, hb', rfl, ho, hb⟩ := hrel
    by_cases hlt : b < L
    · obtain ⟨w1, rfl⟩ : ∃ w1, w1 = wr := ⟨_, rfl⟩
      go_wp2_with fail
      go_loopw [7, 8, 18] (fun v v' j wr => ∃ (k m1 m2 : Nat) (A1 A2 : Option Addr) (c1 c2 : Nat), k ≤ n ∧ j = .int .i64 (k : Int) ∧ m1 = k ∧ m2 = k ∧ v = .slice A1 m1 c1 ∧ v' = .slice A2 m2 c2 ∧ Hid (R2 w1.heap.size wr (.slice A1 m1 c1) (.slice A2 m2 c2) ((coX l).take k) ((coY l b).take k)) ∧ Hid (Below w1.heap.size w1 wr)) (fun _ _ j _ => n - (intOf j).toNat)
      case atStart => exact ⟨0, 0, 0, none, none, 0, 0, by omega, rfl, rfl, rfl, rfl, rfl, Lib.hid (R2.nil _ _), Lib.hid (Below.refl _ _)⟩
      case round =>
        obtain ⟨k, m1, m2, A1, A2, c1, c2, hk, rfl, hm1, hm2, rfl, rfl, hr, hb2⟩ := hrel
        subst hm1
        subst hm2
        by_cases hlk : m2 < n
        · obtain ⟨g3, o3, A3, n3, c3, rfl, q1, q2, q3⟩ := H.out.at_ (below_then hb.out hb2.out) hlk
          obtain rfl : n3 = L := by rw [← q3.1]; exact HE.out m2 (by rw [HLn.out]; exact hlk)
          obtain ⟨g4, o4, rfl, q4⟩ := q3.at_ (Below.refl _ _) hlt
          obtain ⟨x, hx⟩ : ∃ x, x = gX l m2 := ⟨_, rfl⟩
          obtain ⟨y, hy⟩ : ∃ y, y = gB (gS l m2).2 b := ⟨_, rfl⟩
          have HXV : Hid ((gS l m2).1 = bv x) := Lib.hid (by rw [hx]; exact gX_eq (by have := HX.out m2 hlk; omega) (by have := HX.out m2 hlk; omega))
          rw [HXV.out] at q1
          rw [← hy] at q4
          have HTX : Hid ((coX l).take (m2 + 1) = (coX l).take m2 ++ [x]) := Lib.hid (by rw [coX_take (by rw [HLn.out]; exact hlk), hx])
          have HTY : Hid ((coY l b).take (m2 + 1) = (coY l b).take m2 ++ [y]) := Lib.hid (by rw [coY_take (by rw [HLn.out]; exact hlk), hy])
          have hxw := bv_wrap x
          have hx0 := bv_lo x
          have hx1 := bv_hi x
          have hbs := kb1 wr (.cells #[.int .i64 (bv x), .slice (some ⟨g4, o4, none⟩) n3 c3] 33)
          have ks := Blk.new wr 33 #[.int .i64 (bv x), .slice (some ⟨g4, o4, none⟩) n3 c3]
          have hb6 := kb1 (wr.alloc (.cells #[.int .i64 (bv x), .slice (some ⟨g4, o4, none⟩) n3 c3] 33)) (.cells #[B x] 5)
          have HR6 := Lib.hid ((hr.out.kept hbs).kept hb6)
          have HBb := Lib.hid (below_then hb2.out (below_then hbs hb6))
          have HKS := Lib.hid (ks.kept hb6)
          have HBK : Hid (BS ((wr.alloc (.cells #[.int .i64 (bv x), .slice (some ⟨g4, o4, none⟩) n3 c3] 33)).alloc (.cells #[B x] 5)) (some ⟨wr.heap.size + 1, 0, none⟩) 1 1 [x]) := Lib.hid (bs1 (blk_at (by simp) _ _))
          have HLX : Hid (((coX l).take m2).length = m2) := Lib.hid (by rw [List.length_take, coX, tab_length, HLn.out]; omega)
          have HLY : Hid (((coY l b).take m2).length = m2) := Lib.hid (by rw [List.length_take, coY, tab_length, HLn.out]; omega)
          have HO1 := Lib.hid (HR6.out.o1)
          rw [HLX.out] at HO1
          have HM1 : Hid (m2 + 1 ≤ 140737488355328) := Lib.hid (by have := H64.out; omega)
          have HQ : Hid (∀ w', Below w.heap.size w w' → w'.cell? ⟨g4, o4 + b, none⟩ = some (B y)) := Lib.hid (fun w' hw' => by
            obtain ⟨_, _, A9, n9, c9, e9, s1, s2, s3⟩ := H.out.2.2.2 m2 hlk
            cases e9
            have t2 := cell_kept (below_then hb.out hb2.out) s2
            rw [q2] at t2
            injection t2 with t2
            injection t2 with f1 f2 f3
            subst f1 f2 f3
            obtain ⟨_, _, e8, s8⟩ := s3.at_ hw' hlt
            cases e8
            rw [← hy] at s8
            exact s8)
          have FIN : Hid (∀ v6 w6, AppPost w1.heap.size 5 (.slice A1 m2 c1) m2 1 (((coX l).take m2 ++ [x]).map B) v6 ((wr.alloc (.cells #[.int .i64 (bv x), .slice (some ⟨g4, o4, none⟩) n3 c3] 33)).alloc (.cells #[B x] 5)) w6 → ∃ g6 cap6, v6 = .slice (some ⟨g6, 0, none⟩) (m2 + 1) cap6 ∧ Hid (R2 w1.heap.size (w6.alloc (.cells #[B y] 5)) (.slice (some ⟨g6, 0, none⟩) (m2 + 1) cap6) (.slice A2 m2 c2) ((coX l).take m2 ++ [x]) ((coY l b).take m2)) ∧ Hid ((w6.alloc (.cells #[B y] 5)).ownsRow w1.heap.size 5 1 (.slice A2 m2 c2) m2 (((coY l b).take m2).map B)) ∧ Hid (BS (w6.alloc (.cells #[B y] 5)) (some ⟨w6.heap.size, 0, none⟩) 1 1 [y]) ∧ Hid (Below w1.heap.size w1 (w6.alloc (.cells #[B y] 5))) ∧ w6.cell? ⟨wr.heap.size, 1, none⟩ = some (.slice (some ⟨g4, o4, none⟩) n3 c3) ∧ w6.cell? ⟨g4, o4 + b, none⟩ = some (B y)) := Lib.hid (fun v6 w6 hp6 => by
            have hr7 : R2 w1.heap.size w6 v6 (.slice A2 m2 c2) ((coX l).take m2 ++ [x]) ((coY l b).take m2) := HR6.out.app1 (by rw [HLX.out]; rw [List.map_append] at hp6; exact hp6)
            obtain ⟨m6, g6, cap6, hm6, rfl⟩ := own_form (by omega) hp6.1
            subst hm6
            have hb16 : Below w1.heap.size w1 w6 := HBb.out.grown hp6.2.1 HBb.out.size (fun b hb' => own_base HO1.out b hb')
            have hks6 := grown_blk hp6.2.1 HKS.out (own_ne HO1.out HKS.out (by decide))
            have hb7 := kb1 w6 (.cells #[B y] 5)
            have hr8 := hr7.kept hb7
            have ho2 := hr8.o2
            rw [HLY.out] at ho2
            exact ⟨g6, cap6, rfl, Lib.hid hr8, Lib.hid ho2, Lib.hid (bs1 (Blk.new w6 _ _)), Lib.hid (below_then hb16 hb7), by rw [hks6.cell]; rfl, HQ.out w6 (below_then hb.out hb16)⟩)
          clear hx hy q3 q4 hbs ks hb6
          go_wp2_with (first
            | (at_builtin; refine wpList_appB _ rfl (.tmp 22) (.tmp 26) rfl w1.heap.size (.slice A1 m2 c1) m2 _ rfl HO1.out _ 1 1 [x] rfl HBK.out HM1.out HBb.out.size ?_; intro v6 w6 hp6; obtain ⟨g6, cap6, rfl, HR7, HO2, HBK2, HB7, p1, p2⟩ := FIN.out v6 w6 hp6; clear hp6)
            | (at_builtin; refine wpList_appB _ rfl (.tmp 28) (.tmp 34) rfl w1.heap.size (.slice A2 m2 c2) m2 _ rfl HO2.out _ 1 1 [y] rfl HBK2.out HM1.out HB7.out.size ?_; intro v8 w8 hp8))
          have hr9 : R2 w1.heap.size w8 (.slice (some ⟨g6, 0, none⟩) (m2 + 1) cap6) v8 ((coX l).take m2 ++ [x]) ((coY l b).take m2 ++ [y]) := HR7.out.app2 (by rw [HLY.out]; rw [List.map_append] at hp8; exact hp8)
          obtain ⟨m8, g8, cap8, hm8, rfl⟩ := own_form (by omega) hp8.1
          subst hm8
          have HB8 : Hid (Below w1.heap.size w1 w8) := Lib.hid (HB7.out.grown hp8.2.1 HB7.out.size (fun b hb' => own_base HO2.out b hb'))
          have HR9 : Hid (R2 w1.heap.size w8 (.slice (some ⟨g6, 0, none⟩) (m2 + 1) cap6) (.slice (some ⟨g8, 0, none⟩) (m2 + 1) cap8) ((coX l).take (m2 + 1)) ((coY l b).take (m2 + 1))) := Lib.hid (by rw [HTX.out, HTY.out]; exact hr9)
          clear hp8 hr9 p1 p2
          go_roundw
          case rel => exact ⟨m2 + 1, m2 + 1, m2 + 1, _, _, cap6, cap8, by omega, by go_num, rfl, rfl, rfl, rfl, HR9, HB8⟩
          case measure => simp [intOf]; omega
        · obtain rfl : m2 = n := by omega
          have hr0 := hr.out
          rw [List.take_of_length_le (by rw [coX, tab_length, HLn.out]; exact Nat.le_refl _), List.take_of_length_le (by rw [coY, tab_length, HLn.out]; exact Nat.le_refl _)] at hr0
          have o1 := hr0.o1
          have o2 := hr0.o2
          rw [show (coX l).length = m2 by rw [coX, tab_length, HLn.out]] at o1
          rw [show (coY l b).length = m2 by rw [coY, tab_length, HLn.out]] at o2
          obtain ⟨_, _, e1, b1⟩ := BS.of_own o1 (by have := H64.out; unfold lim; omega)
          cases e1
          obtain ⟨_, _, e2, b2⟩ := BS.of_own o2 (by have := H64.out; unfold lim; omega)
          cases e2
          have HB1 := Lib.hid b1
          have HB2 := Lib.hid b2
          have HOW := Lib.hid (ho.out.kept hb2.out)
          have HOB := Lib.hid ho.out.base
          have HBw := Lib.hid (below_then hb.out hb2.out)
          have HSZ := Lib.hid hb2.out.size
          have H1000 : Hid (m2 ≤ 1000) := Lib.hid (by have := H64.out; omega)
          clear hr0 o1 o2 b1 b2
          go_wp2_with fail
          refine (rinterp_any A1 A2 m2 c1 c2 (coX l) (coY l b) wr HB1.out HB2.out H1000.out HD.out).mono ?_
          rintro e w6 ⟨v6, rfl, A6, n6, c6, rfl, hb6, ha6, hx6⟩
          have hb7 := kb1 w6 (.cells #[.slice A6 n6 c6] 22)
          have hb67 := below_then hx6 hb7
          obtain ⟨hm7, ps, hpl, hown7, hps7⟩ := HOW.out.kept hb67
          have HW7 := Lib.hid hown7
          have HPS7 := Lib.hid hps7
          have HM7 := Lib.hid hm7
          have HPL := Lib.hid hpl
          have H7 := Lib.hid (hb6.kept hb7)
          have HA6 := Lib.hid ha6
          have HB7 := Lib.hid (below_then HBw.out hb67)
          have HK24 : Hid ((b + 1) * 24 ≤ 140737488355328) := Lib.hid (by have := HLL.out; omega)
          have HKb : Hid (b < 140737488355328) := Lib.hid (by have := HLL.out; omega)
          clear hb6 ha6 hx6 hb7 hb67 hm7 hpl hown7 hps7
          go_wp2_with (first
            | (at_builtin; refine wpList_app1 _ rfl (.tmp 37) (.tmp 41) _ 22 (.slice none 0 0) 24 (by kernel_rfl) infoBytes rfl rfl w.heap.size u5 b ps rfl HW7.out w6.heap.size 1 22 (.slice A6 n6 c6) rfl (Blk.new w6 _ _) rfl HK24.out HKb.out HB7.out.size ?_; intro v8 w8 hp8))
          have hfar : 0 < n6 → AtB A6 (fun b => u5.ownBlock ≠ some b) := fun _ a e e' => by
            have h1 := HA6.out a e
            have h2 := (HOB.out a.block e').2
            have h3 := HSZ.out
            omega
          have HO8 : Hid (OwnR w8 w.heap.size v8 (b + 1) (shgK l (b + 1))) := Lib.hid (by
            rw [shgK_succ]
            exact OwnR.push HM7.out HPL.out HPS7.out H7.out hfar hp8)
          have HB8 : Hid (Below w.heap.size w w8) := Lib.hid (HB7.out.grown hp8.2.1 HB7.out.size (fun b hb' => (HOB.out b hb').1))
          clear hp8 hfar
          go_wp2_with fail
          go_roundw
          case rel => exact ⟨b + 1, by omega, by go_num, HO8, HB8⟩
          case measure => simp [intOf]; omega
    · obtain rfl : b = L := by omega
      have HF : Hid (OwnR wr w.heap.size u5 (shgK l b).length (shgK l b)) := Lib.hid (by rw [shgK_length]; exact ho.out)
      go_wp2_with fail
      go_ret
      exact ⟨_, rfl, HF.out, hb.out⟩
end Go.Proofs.Ytakedococfklgaa
