/- Contracts of ref03.Join for one string, of the law's collides and pad. -/
import Derived.Test.YtgjgofjabdjclaaDoorRsmm
import Derived.Test.YtgjgofjabdjclaaDoorA10
namespace Go.Proofs.YtgjgofjabdjclaaDoor
open Go Go.RowKit Gf Sha

theorem strB_app (a b : List UInt8) : strB a ++ strB b = strB (a ++ b) := by
  rw [ByteArray.ext_iff]
  simp [strB, ByteArray.data_append]
theorem strB_nil : ({ data := #[] } : ByteArray) = strB [] := rfl
/-- The test ahead of a concatenation. -/
theorem cat_ok (a b : List UInt8) (h : a.length + b.length ≤ 9223372036854775807) : ¬ 9223372036854775807 < (strB a).size + (strB b).size := by
  rw [strB_size, strB_size]
  omega
attribute [local go_sem] strB_app

set_option maxRecDepth 100000 in
set_option maxHeartbeats 1000000 in
theorem rjoin1 (g : Nat) (s : List UInt8) (w : World) (h : w.cell? ⟨g, 0, none⟩ = some (.string (strB s))) (hN : s.length ≤ 1048576) :
    Calls Tryd.prog 20 #[.slice (some ⟨g, 0, none⟩) 1 1] w fun e w' => e = .returned (.string (strB (sha s))) ∧ Below w.heap.size w w' := by
  have ck := cat_ok [] s (by simp; omega)
  go_enter Tryd.func20, Tryd.ntmps20
  rw [strB_nil]
  go_wp2_with fail
  go_loopw [3, 8] (fun v iv wr => wr = w ∧ ((v = .string (strB []) ∧ iv = .int .i64 0) ∨ (v = .string (strB s) ∧ iv = .int .i64 1))) (fun _ iv _ => 1 - (intOf iv).toNat)
  case atStart => exact ⟨rfl, .inl ⟨rfl, rfl⟩⟩
  case round =>
    obtain ⟨rfl, ⟨rfl, rfl⟩ | ⟨rfl, rfl⟩⟩ := hrel
    · go_wp2_with fail
      go_roundw
      case rel => exact ⟨trivial, .inr ⟨rfl, rfl⟩⟩
      case measure => simp [intOf]
    · go_wp2_with (first
        | ((with_reducible show wpList _ _ _ (⟨some 17, _, _, _, _, _⟩ :: _) _ _); refine wpList_convB _ rfl (.tmp 16) rfl s rfl ?_; intro w1 cap hc; have HC1 := Lib.hid hc; clear hc)
        | (go_at_call 48; refine (rsum_any _ s.length _ s w1 (HC1.out.bs (by unfold lim; omega)) hN).mono ?_; rintro e w2 ⟨rfl, b2⟩))
      go_ret
      exact ⟨rfl, below_then HC1.out.2.2.1 b2⟩

set_option maxRecDepth 100000 in
set_option maxHeartbeats 1000000 in
theorem collides_any (a b : List UInt8) (w : World) (ha : a.length ≤ 1048576) (hb : b.length ≤ 1048576) :
    Calls Tryd.prog 19 #[.string (strB a), .string (strB b)] w fun e w' => e = .returned (.bool (!decide (a = b) && decide (sha a = sha b))) ∧ Below w.heap.size w w' := by
  by_cases h : a = b
  · subst h
    have e1 : ((strB a).toList == (strB a).toList) = true := by rw [strB_eq, decide_eq_true rfl]
    go_enter Tryd.func19, Tryd.ntmps19
    go_wp2_with fail
    go_ret
    exact ⟨ret_bool (a := false) (by simp), Below.refl _ _⟩
  · have e1 : ((strB a).toList == (strB b).toList) = false := by rw [strB_eq, decide_eq_false h]
    have e2 := strB_eq (sha a) (sha b)
    rw [decide_eq_false h]
    clear h
    go_enter Tryd.func19, Tryd.ntmps19
    go_wp2_with (first
      | (go_at_call 20; (with_reducible show Calls _ _ _ (World.alloc w _) _); refine (rjoin1 w.heap.size a _ ((BL.new w 9 [.string (strB a)]).get (j := 0) rfl) ha).mono ?_; rintro e w1 ⟨rfl, b1⟩; have HB1 : Hid (Below w.heap.size w w1) := Lib.hid (((Below.refl _ _).alloc (Nat.le_refl _) _).trans (b1.mono (by simp))); clear b1)
      | (go_at_call 20; (with_reducible show Calls _ _ _ (World.alloc w1 _) _); refine (rjoin1 w1.heap.size b _ ((BL.new w1 9 [.string (strB b)]).get (j := 0) rfl) hb).mono ?_; rintro e w2 ⟨rfl, b1⟩; have HB2 : Hid (Below w.heap.size w w2) := Lib.hid ((HB1.out.alloc HB1.out.size _).trans (b1.mono (by have := HB1.out.size; simp; omega))); clear b1))
    go_ret
    exact ⟨ret_bool (a := decide (sha a = sha b)) (by simp), HB2.out⟩

attribute [local go_sem] Gf.xor_bits
theorem xpart2_zero (x : UInt8) (f : List UInt8) : xr x (f.take 0) ++ f.drop 0 = f := by simp [xr]
theorem xpart2_set (x : UInt8) (f : List UInt8) (k : Nat) (h : k < f.length) : (xr x (f.take k) ++ f.drop k).set k (gB f k ^^^ x) = xr x (f.take (k + 1)) ++ f.drop (k + 1) := by
  have hl : (xr x (f.take k)).length = k := by simp [xr]; omega
  rw [List.set_append, if_neg (by omega), hl, Nat.sub_self, List.drop_eq_getElem_cons h, List.set_cons_zero, List.take_succ_eq_append_getElem h, xr, xr, List.map_append, List.append_assoc, gB_eq h]
  rfl
theorem xpart2_get (x : UInt8) (f : List UInt8) (k : Nat) (h : k < f.length) : gB (xr x (f.take k) ++ f.drop k) k = gB f k := by
  have hl : (xr x (f.take k)).length = k := by simp [xr]; omega
  rw [gB, gB, List.getD_eq_getElem?_getD, List.getD_eq_getElem?_getD, List.getElem?_append_right (by omega), hl, Nat.sub_self, List.getElem?_drop, Nat.add_zero]
theorem xpart2_length (x : UInt8) (f : List UInt8) (k : Nat) : (xr x (f.take k) ++ f.drop k).length = f.length := by simp [xr]; omega

set_option maxRecDepth 100000 in
set_option maxHeartbeats 1000000 in
theorem lpad_any (key : List UInt8) (x : UInt8) (v : Value) (hv : v = B x) (w : World) (hk : key.length ≤ 64) :
    Calls Tryd.prog 18 #[.string (strB key), v] w fun e w' => e = .returned (.string (strB (xr x (keyp key)))) ∧ Below w.heap.size w w' := by
  subst hv
  have HK := Lib.hid hk
  have HKL : Hid ((keyp key).length = 64) := Lib.hid (keyp_length key hk)
  clear hk
  go_enter Tryd.func18, Tryd.ntmps18
  go_wp2_with (first
    | ((with_reducible show wpList _ _ _ (⟨some 7, _, _, _, _, _⟩ :: _) _ _); refine wpList_mk _ rfl 22 5 _ _ rfl (B 0) 1 Tryd.underlying22 infoU8 rfl 64 64 _ _ rfl rfl rfl rfl (by omega) (by omega) (by omega) ?_; intro w1 a1 a2 a3; have HG1 := Lib.hid a1; have HB1 := Lib.hid a2; clear a1 a2 a3)
    | ((with_reducible show wpList _ _ _ (⟨some 10, _, _, _, _, _⟩ :: _) _ _); refine wpList_copyS _ rfl (.tmp 8) (.tmp 9) 22 9 5 rfl Tryd.underlying22 (by kernel_rfl) w.heap.size 0 64 64 5 _ rfl HG1.out key rfl (by simp) ?_; intro w3 c1 c2 c3; have HC1 := Lib.hid c1; have HC2 := Lib.hid c2; clear c1 c2 c3))
  have hk3 : BL w3 w.heap.size 5 ((keyp key).map B) := by
    have e : splice (List.replicate 64 (B 0)) 0 ((key.take (min key.length 64)).map B) = (keyp key).map B := by
      have := HK.out
      rw [Nat.min_eq_left this, List.take_of_length_le (Nat.le_refl _)]
      unfold splice keyp
      rw [List.take_zero, List.nil_append, Nat.zero_add, List.length_map, List.drop_replicate, List.map_append, List.map_replicate]
    rw [← e]; exact HC1.out
  have HK3 : Hid (BL w3 w.heap.size 5 ((xr x ((keyp key).take 0) ++ (keyp key).drop 0).map B)) := Lib.hid (by rw [xpart2_zero]; exact hk3)
  have HW3 : Hid (Below w.heap.size w w3) := Lib.hid (((Kp.of_below (S := fun _ => False) HB1.out).after HC2.out (fun i hi e => by omega)).below (Nat.le_refl _) (fun _ h => h.elim))
  obtain ⟨f, hf⟩ : ∃ f, f = keyp key := ⟨_, rfl⟩
  rw [← hf] at HKL HK3
  have HF := Lib.hid hf
  clear hf hk3 HC1 HC2 HG1 HB1
  go_loopw [13] (fun i wr => ∃ k : Nat, k ≤ 64 ∧ i = .int .i64 (k : Int) ∧ Hid (BL wr w.heap.size 5 ((xr x (f.take k) ++ f.drop k).map B)) ∧ Hid (Below w.heap.size w wr)) (fun i _ => 64 - (intOf i).toNat)
  case atStart => exact ⟨0, by omega, rfl, HK3, HW3⟩
  case round =>
    obtain ⟨k, hk, rfl, hb, hw⟩ := hrel
    obtain ⟨wx, hwx⟩ : ∃ x, x = wr := ⟨_, rfl⟩
    rw [← hwx] at hb hw ⊢
    clear hwx
    by_cases hlt : k < 64
    · have hlf : k < f.length := by rw [HKL.out]; exact hlt
      have c2 := hb.out.frozen k
      have c3 : wx.cell? ⟨w.heap.size, k, none⟩ = some (B (gB f k)) := by
        have h1 := hb.out.get (map_get_B _ k (by rw [xpart2_length]; exact hlf))
        rwa [xpart2_get x f k hlf] at h1
      have HB3 : Hid (BL (wx.setCell ⟨w.heap.size, k, none⟩ (B (gB f k ^^^ x))) w.heap.size 5 ((xr x (f.take (k + 1)) ++ f.drop (k + 1)).map B)) := Lib.hid (by
        have := hb.out.set_ k (B (gB f k ^^^ x))
        rw [map_set_B, xpart2_set x f k hlf] at this
        exact this)
      have HW4 : Hid (Below w.heap.size w (wx.setCell ⟨w.heap.size, k, none⟩ (B (gB f k ^^^ x)))) := Lib.hid (hw.out.setCell (Nat.le_refl _) _)
      clear hlf
      go_wp2_with fail
      clear c2 c3
      generalize wx.setCell ⟨w.heap.size, k, none⟩ (B (gB f k ^^^ x)) = w8 at HB3 HW4 ⊢
      go_wp2_with fail
      go_roundw
      case rel => exact ⟨k + 1, by omega, by go_num, HB3, HW4⟩
      case measure => simp [intOf]; omega
    · obtain rfl : k = 64 := by omega
      have HB4 : Hid (BL wx w.heap.size 5 ((xr x f).map B)) := Lib.hid (by
        have h1 := hb.out
        rw [← HKL.out, List.take_of_length_le (Nat.le_refl _), List.drop_of_length_le (Nat.le_refl _), List.append_nil] at h1
        exact h1)
      have cv := conv_str (BL.bs HB4.out (n := 64) (by rw [xr_length]; exact HKL.out) (by decide))
      go_wp2_with fail
      go_ret
      exact ⟨by rw [← HF.out]; rfl, hw.out⟩
end Go.Proofs.YtgjgofjabdjclaaDoor
