/- Plain: shares agree with a threshold exactly when the sharing through all of them has degrees below it. -/
import Derived.Test.YtakedococfklgaaTh3m
import Derived.Test.YtakedococfklgaaGdm
namespace Go.Proofs.Ytakedococfklgaa
open Go.RowKit Gf

section
variable {l : List (Int × List UInt8)} {L t : Nat}
theorem coX_len (l : List (Int × List UInt8)) : (coX l).length = l.length := by rw [coX, tab_length]
theorem gB_coX {i : Nat} (h : i < l.length) : gB (coX l) i = gX l i := by rw [coX, gB_tab _ h]
theorem take_dst (hd : Py.Dst (coX l)) : Py.Dst (Py.xsU (l.take t)) := fun i j hij hj e => by
  rw [Py.xsU_length, List.length_take] at hj
  have hi' : i < (l.take t).length := by rw [List.length_take]; omega
  have hj' : j < (l.take t).length := by rw [List.length_take]; omega
  rw [Py.gB_xsU hi', Py.gB_xsU hj', gX_take (by omega), gX_take (by omega)] at e
  have h1 := hd i j hij (by rw [coX_len]; omega)
  rw [gB_coX (by omega), gB_coX (by omega)] at h1
  exact h1 e
theorem take_eql (hE : Eql l L) : Eql (l.take t) L := fun k hk => by
  rw [List.length_take] at hk
  rw [gS_take (by omega)]; exact hE k (by omega)
theorem it_val (hd : Py.Dst (coX l)) {b i : Nat} (hi : i < l.length) : Py.ev (Py.itP (coX l) (coY l b)) (gX l i) = gB (gS l i).2 b := by
  have h1 := Py.itP_value (ys := coY l b) hd (i := i) (by rw [coX_len]; exact hi)
  rw [gB_coX hi] at h1
  rw [h1, coY, gB_tab _ hi]
theorem vlA_take (hE : Eql l L) (h0 : 0 < t) (ht : t ≤ l.length) (X : UInt8) : vlA (l.take t) X = vlK (l.take t) X L t := by
  unfold vlA
  rw [gS_take (by omega), hE 0 (by omega), List.length_take, Nat.min_eq_left ht]
theorem vlA_len (hE : Eql l L) (h0 : 0 < t) (ht : t ≤ l.length) (X : UInt8) : (vlA (l.take t) X).length = L := by
  rw [vlA_take hE h0 ht]
  exact vlK_length (take_eql hE) X t (by rw [List.length_take]; omega)
theorem tl_itP (xs ys : List UInt8) : (Py.itP xs ys).length = Py.tl (Py.itP xs ys) := by
  rw [Py.itP, Py.trim_length, Py.tl_trim]
/-- From the degrees to the values. -/
theorem bl_vl (hE : Eql l L) (hd : Py.Dst (coX l)) (h0 : 0 < t) (ht : t ≤ l.length) (hb : blB (shgK l L) (t : Int) = true) (X : UInt8) : vlA (l.take t) X = atK (shgK l L) X L := by
  have hlt : (l.take t).length = t := by rw [List.length_take]; omega
  refine gB_ext (by rw [vlA_len hE h0 ht, atK_length]) fun b hbL => ?_
  rw [vlA_len hE h0 ht] at hbL
  have hg : gR (shgK l L) b = Py.itP (coX l) (coY l b) := by rw [gR_eq (by rw [shgK_length]; exact hbL)]; simp [shgK]
  unfold blB at hb
  rw [List.all_eq_true] at hb
  have h1 := hb b (List.mem_range.2 (by rw [shgK_length]; exact hbL))
  rw [hg] at h1
  have h2 : (Py.tl (Py.itP (coX l) (coY l b)) : Int) - 1 < (t : Int) := of_decide_eq_true h1
  have h3 := Py.vl_ev (take_eql (t := t) hE) hbL (take_dst hd) (p := Py.itP (coX l) (coY l b)) (by rw [tl_itP, hlt]; omega) (fun j hj => by
    rw [hlt] at hj
    rw [gX_take hj, gS_take hj]; exact it_val hd (by omega)) X
  rw [hlt] at h3
  rw [vlA_take hE h0 ht, h3, atK, gB_tab _ hbL, hg]
theorem at_val (hE : Eql l L) (hd : Py.Dst (coX l)) {i : Nat} (hi : i < l.length) : atK (shgK l L) (gX l i) L = (gS l i).2 := by
  refine gB_ext (by rw [atK_length, hE i hi]) fun b hb => ?_
  rw [atK_length] at hb
  have hg : gR (shgK l L) b = Py.itP (coX l) (coY l b) := by rw [gR_eq (by rw [shgK_length]; exact hb)]; simp [shgK]
  rw [atK, gB_tab _ hb, hg, it_val hd hi]
theorem ag_bl (hE : Eql l L) (hd : Py.Dst (coX l)) (h0 : 0 < t) (ht : t ≤ l.length) : agB l t = blB (shgK l L) (t : Int) := by
  have hlt : (l.take t).length = t := by rw [List.length_take]; omega
  cases hbl : blB (shgK l L) (t : Int) with
  | true =>
    refine agB_true fun i _ hi => ?_
    unfold agK
    exact decide_eq_true (by rw [bl_vl hE hd h0 ht hbl, at_val hE hd hi])
  | false =>
    cases hag : agB l t with
    | false => rfl
    | true =>
      refine absurd hbl ?_
      rw [Bool.not_eq_false]
      unfold blB
      rw [List.all_eq_true]
      intro b hb
      rw [List.mem_range, shgK_length] at hb
      have hg : gR (shgK l L) b = Py.itP (coX l) (coY l b) := by rw [gR_eq (by rw [shgK_length]; exact hb)]; simp [shgK]
      rw [hg]
      obtain ⟨s, s1, s2⟩ := Py.vl_poly (take_eql (t := t) hE) hb t (by rw [hlt]; exact Nat.le_refl _)
      rw [hlt] at s1
      have hco := Py.unique (p := s) (q := Py.itP (coX l) (coY l b)) hd (by rw [coX_len]; omega) (Py.itP_length _ _) (fun i hi => by
        rw [coX_len] at hi
        rw [gB_coX hi, it_val hd hi, s2]
        by_cases hit : i < t
        · have := Py.vl_at (take_eql (t := t) hE) hb (take_dst hd) (j := i) (by rw [hlt]; exact hit) t (by rw [hlt]; exact Nat.le_refl _)
          rw [gX_take hit, gS_take hit, if_pos hit] at this
          exact this
        · unfold agB at hag
          rw [List.all_eq_true] at hag
          have h1 := hag i (List.mem_range.2 hi)
          have h2 : agK l t i = true := by simpa [hit] using h1
          unfold agK at h2
          have h3 := of_decide_eq_true h2
          rw [vlA_take hE h0 ht] at h3
          rw [h3])
      refine decide_eq_true ?_
      have h4 : Py.tl (Py.itP (coX l) (coY l b)) ≤ t := Py.tl_le_of fun k hk => by rw [← hco k]; exact gB_ge (by omega)
      omega
end
end Go.Proofs.Ytakedococfklgaa
