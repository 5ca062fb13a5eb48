/- Two rows of bytes that a call owns; a column of shares; contract of column.distance. -/
import Derived.Test.YtakedococfklgaaB2
import Derived.Test.YtakedococfklgaaB3
import Derived.Test.YtakedococfklgaaText4m
namespace Go.Proofs.Ytakedococfklgaa
open Go.RowKit Gf

attribute [local go_sem] Gf.xor_bits Gf.and_bits Gf.or_bits Gf.ne_zero_iff Gf.eq_zero_iff Gf.eq_one_iff Gf.beq_bytes Gf.bne_bytes Gf.bv_toNat

/-- Two rows of bytes in different blocks. -/
structure R2 (base : Nat) (w : World) (v1 v2 : Value) (a b : List UInt8) : Prop where
  o1 : w.ownsRow base 5 1 v1 a.length (a.map B)
  o2 : w.ownsRow base 5 1 v2 b.length (b.map B)
  d : ∀ g, v1.ownBlock = some g → v2.ownBlock ≠ some g
section
variable {base : Nat} {w w' : World} {v1 v2 v' : Value} {a b : List UInt8} {x : UInt8}
theorem R2.kept (h : R2 base w v1 v2 a b) (hb : Below w.heap.size w w') : R2 base w' v1 v2 a b :=
  ⟨Kp.own (S := fun _ => False) (Kp.of_below hb) h.o1 (fun _ _ => id), Kp.own (S := fun _ => False) (Kp.of_below hb) h.o2 (fun _ _ => id), h.d⟩
theorem R2.drew (h : R2 base w v1 v2 a b) : R2 base w.drew v1 v2 a b := ⟨h.o1, h.o2, h.d⟩
theorem R2.nil (base : Nat) (w : World) : R2 base w (.slice none 0 0) (.slice none 0 0) [] [] := ⟨World.ownsRow_nil _ _ _ _, World.ownsRow_nil _ _ _ _, fun g h => by simp [Value.ownBlock] at h⟩
theorem R2.app1 (h : R2 base w v1 v2 a b) (hp : AppPost base 5 v1 a.length 1 (a.map B ++ [B x]) v' w w') : R2 base w' v' v2 (a ++ [x]) b := by
  have hK : Kp (fun q => v1.ownBlock = some q) w w' := (Kp.refl _ _).grown hp.2.1 (fun _ e => .inl e)
  refine ⟨by simpa using hp.1, Kp.own hK h.o2 (fun g hg hg' => h.d g hg' hg), fun g hg hg' => ?_⟩
  rcases hp.2.2 with h1 | h1
  · exact h.d g (h1.symm.trans hg) hg'
  · have := (h.o2.lt g hg').2
    rw [h1] at hg
    injection hg with hg
    omega
theorem R2.app2 (h : R2 base w v1 v2 a b) (hp : AppPost base 5 v2 b.length 1 (b.map B ++ [B x]) v' w w') : R2 base w' v1 v' a (b ++ [x]) := by
  have hK : Kp (fun q => v2.ownBlock = some q) w w' := (Kp.refl _ _).grown hp.2.1 (fun _ e => .inl e)
  refine ⟨Kp.own hK h.o1 (fun g hg hg' => h.d g hg hg'), by simpa using hp.1, fun g hg hg' => ?_⟩
  rcases hp.2.2 with h1 | h1
  · exact h.d g hg (h1.symm.trans hg')
  · have := (h.o1.lt g hg).2
    rw [h1] at hg'
    injection hg' with hg'
    omega
end

/-- A column: one byte of each share. -/
structure Col (w : World) (gc : Nat) (A A' : Option Addr) (n c c' t : Nat) (xs ys : List UInt8) : Prop where
  c0 : w.cell? ⟨gc, 0, none⟩ = some (.slice A n c)
  c1 : w.cell? ⟨gc, 1, none⟩ = some (.slice A' n c')
  c2 : w.cell? ⟨gc, 2, none⟩ = some (.int .i64 (t : Int))
  b0 : BS w A n c xs
  b1 : BS w A' n c' ys
section
variable {w w' : World} {gc : Nat} {A A' : Option Addr} {n c c' t : Nat} {xs ys : List UInt8}
theorem Col.kept (h : Col w gc A A' n c c' t xs ys) (hb : Below w.heap.size w w') : Col w' gc A A' n c c' t xs ys := ⟨cell_kept hb h.c0, cell_kept hb h.c1, cell_kept hb h.c2, h.b0.kept hb, h.b1.kept hb⟩
theorem Col.drewN (h : Col w gc A A' n c c' t xs ys) (k : Nat) : Col (w.drewN k) gc A A' n c c' t xs ys := ⟨h.c0, h.c1, h.c2, h.b0, h.b1⟩
end
/-- The number of the first k places at which p is not y. -/
def dsK (xs ys p : List UInt8) : Nat → Nat
  | 0 => 0
  | k + 1 => if Py.ev p (gB xs k) = gB ys k then dsK xs ys p k else dsK xs ys p k + 1
theorem dsK_le (xs ys p : List UInt8) : ∀ k, dsK xs ys p k ≤ k
  | 0 => Nat.le_refl _
  | k + 1 => by have := dsK_le xs ys p k; unfold dsK; split <;> omega

set_option maxRecDepth 100000 in
set_option maxHeartbeats 1000000 in
theorem distance_any (gc : Nat) (A A' Ap : Option Addr) (n c c' t np cp : Nat) (xs ys p : List UInt8) (w : World) (h : Col w gc A A' n c c' t xs ys) (hp : BS w Ap np cp p) :
    Calls Try.prog 67 #[.pointer (some ⟨gc, 0, none⟩), .slice Ap np cp] w fun e w' => e = .returned (.int .i64 (dsK xs ys p n : Int)) ∧ ∃ m, w' = w.drewN m := by
  have hn := h.b0.len_le
  have hc0 := h.c0
  have H := Lib.hid h
  have HP := Lib.hid hp
  clear h hp
  go_enter Try.func67, Try.ntmps67
  go_wp2_with fail
  clear hc0
  go_loopw [5, 13] (fun v i wr => ∃ (k d : Nat), k ≤ n ∧ d ≤ k ∧ v = .int .i64 (d : Int) ∧ i = .int .i64 (k : Int) ∧ Hid (d = dsK xs ys p k) ∧ Hid (∃ m, wr = w.drewN m)) (fun _ i _ => n - (intOf i).toNat)
  case atStart => exact ⟨0, 0, by omega, by omega, rfl, rfl, Lib.hid rfl, Lib.hid ⟨0, rfl⟩⟩
  case round =>
    obtain ⟨k, d, hk, hdk, rfl, rfl, hd, hw⟩ := hrel
    by_cases hlt : k < n
    · obtain ⟨m, hm⟩ := hw.out
      have HW : Col wr gc A A' n c c' t xs ys := by rw [hm]; exact H.out.drewN m
      have HPW : Hid (BS wr Ap np cp p) := Lib.hid (by rw [hm]; exact HP.out.drewN m)
      have HM := Lib.hid hm
      clear hm
      obtain ⟨g, o, rfl, hc⟩ := HW.b0.at_ (Below.refl _ _) hlt
      obtain ⟨g', o', rfl, hc'⟩ := HW.b1.at_ (Below.refl _ _) hlt
      have hc1 := HW.c1
      clear HW
      by_cases he : Py.ev p (gB xs k) = gB ys k
      · have q : (Py.ev p (gB xs k) != gB ys k) = false := by simpa using he
        have HD : Hid (d = dsK xs ys p (k + 1)) := Lib.hid (by rw [dsK, if_pos he]; exact hd.out)
        have HE := Lib.hid he
        clear he hd
        go_wp2_with fail
        go_quiet ((go_at_call 69; exact Calls.quiet_of (eval_any _ _ _ _ _ _ (HPW.out.drewN _))))
        go_wp2_with fail
        go_roundw
        case rel => exact ⟨k + 1, d, by omega, by omega, rfl, by go_num, HD, Lib.hid ⟨_, by rw [HM.out, World.drewN_drewN]⟩⟩
        case measure => simp [intOf]; omega
      · have q : (Py.ev p (gB xs k) != gB ys k) = true := by simpa using he
        have HD : Hid (d + 1 = dsK xs ys p (k + 1)) := Lib.hid (by rw [dsK, if_neg he, hd.out])
        have HE := Lib.hid he
        clear he hd
        go_wp2_with fail
        go_quiet ((go_at_call 69; exact Calls.quiet_of (eval_any _ _ _ _ _ _ (HPW.out.drewN _))))
        go_wp2_with fail
        go_roundw
        case rel => exact ⟨k + 1, d + 1, by omega, by omega, by go_num, by go_num, HD, Lib.hid ⟨_, by rw [HM.out, World.drewN_drewN]⟩⟩
        case measure => simp [intOf]; omega
    · obtain rfl : k = n := by omega
      go_wp2_with fail
      go_ret
      exact ⟨ret_int (by rw [hd.out]), hw.out⟩
end Go.Proofs.Ytakedococfklgaa
