/- Contracts of the references kinkeepref06 Add, Mul. -/
import Derived.Test.YtakedococfklgaaRe3m
import Derived.Test.YtakedococfklgaaCo4m
namespace Go.Proofs.Ytakedococfklgaa
open Go.RowKit Gf

attribute [local go_sem] Gf.xor_bits


theorem kb1' (w : World) (o : Obj) : Below w.heap.size w (w.alloc o) := (Below.refl _ _).alloc (Nat.le_refl _) _
def xoK (p q : List UInt8) (k : Nat) : List UInt8 := tab k (fun i => gB p i ^^^ gB q i)
theorem xoK_length (p q : List UInt8) (k : Nat) : (xoK p q k).length = k := tab_length _ _
theorem xoK_succ (p q : List UInt8) (k : Nat) : xoK p q (k + 1) = xoK p q k ++ [gB p k ^^^ gB q k] := by
  unfold xoK tab; rw [List.range_succ, List.map_append]; rfl

set_option maxRecDepth 100000 in
set_option maxHeartbeats 1000000 in
theorem radd_any (A A' : Option Addr) (n c n' c' : Nat) (p q : List UInt8) (w : World) (hp : BS w A n c p) (hq : BS w A' n' c' q) (hn : n ≤ 100000) (hn' : n' ≤ 100000) :
    Calls Try.prog 81 #[.slice A n c, .slice A' n' c'] w (Rets (GvB (Py.addP p q)) w) := by
  have HP := Lib.hid hp
  have HQ := Lib.hid hq
  have hn2 := hp.len_le
  have hn2' := hq.len_le
  have HN := Lib.hid hn
  have HN' := Lib.hid hn'
  clear hp hq hn hn'
  go_enter Try.func81, Try.ntmps81
  go_wp2_with fail
  go_loopw [5, 6] (fun v i wr => ∃ (k m : Nat) (A1 : Option Addr) (c1 : Nat), k ≤ max n n' ∧ i = .int .i64 (k : Int) ∧ m = k ∧ v = .slice A1 m c1 ∧ Hid (wr.ownsRow w.heap.size 5 1 (.slice A1 m c1) m ((xoK p q k).map B)) ∧ Hid (Below w.heap.size w wr)) (fun _ i _ => max n n' - (intOf i).toNat)
  case atStart => exact ⟨0, 0, none, 0, by omega, rfl, rfl, rfl, Lib.hid (World.ownsRow_nil _ _ _ _), Lib.hid (Below.refl _ _)⟩
  case round =>
    obtain ⟨k, m, A1, c1, hk, rfl, hm, rfl, ho, hb⟩ := hrel
    by_cases hlt : k < max n n'
    · obtain ⟨b1, hb1⟩ : ∃ b, b = gB p k := ⟨_, rfl⟩
      obtain ⟨b2, hb2⟩ : ∃ b, b = gB q k := ⟨_, rfl⟩
      have HS : Hid (xoK p q (k + 1) = xoK p q k ++ [b1 ^^^ b2]) := Lib.hid (by rw [xoK_succ, hb1, hb2])
      have hbT := kb1' wr (.cells #[B (b1 ^^^ b2)] 5)
      have HOT := Lib.hid (Kp.own (S := fun _ => False) (Kp.of_below hbT) ho.out (fun _ _ => id))
      have HBT := Lib.hid (below_then hb.out hbT)
      have HBK : Hid (BS (wr.alloc (.cells #[B (b1 ^^^ b2)] 5)) (some ⟨wr.heap.size, 0, none⟩) 1 1 [b1 ^^^ b2]) := Lib.hid (BS.of_blk (Blk.new wr _ _) rfl (by decide))
      have HR1 : Hid (Calls Try.prog 59 #[.slice A n c, .int .i64 (k : Int)] wr fun e w' => e = .returned (B b1) ∧ wr = w') := Lib.hid (by rw [hb1]; exact rat_any A n c p k wr (HP.out.kept hb.out))
      have HR2 : Hid (Calls Try.prog 59 #[.slice A' n' c', .int .i64 (k : Int)] wr fun e w' => e = .returned (B b2) ∧ wr = w') := Lib.hid (by rw [hb2]; exact rat_any A' n' c' q k wr (HQ.out.kept hb.out))
      have HM1 : Hid (m + 1 ≤ 140737488355328) := Lib.hid (by have := HN.out; have := HN'.out; omega)
      have HKM := Lib.hid hlt
      clear hbT hb1 hb2
      have hkb : (k : Int) < 140737488355328 := by have := HN.out; have := HN'.out; omega
      have hmk : m = k := hm
      subst hm
      clear hlt hk hmk
      have fin : ∀ v6 w6, AppPost w.heap.size 5 (.slice A1 m c1) m 1 ((xoK p q m ++ [b1 ^^^ b2]).map B) v6 (wr.alloc (.cells #[B (b1 ^^^ b2)] 5)) w6 → ∃ A6 c6, v6 = .slice A6 (m + 1) c6 ∧ Hid (w6.ownsRow w.heap.size 5 1 (.slice A6 (m + 1) c6) (m + 1) ((xoK p q (m + 1)).map B)) ∧ Hid (Below w.heap.size w w6) := fun v6 w6 hp6 => by
        obtain ⟨m6, g6, cap6, hm6, rfl⟩ := own_form (by omega) hp6.1
        subst hm6
        refine ⟨_, cap6, rfl, Lib.hid (by rw [HS.out]; exact hp6.1), Lib.hid (HBT.out.grown hp6.2.1 HBT.out.size (fun b hb' => own_base HOT.out b hb'))⟩
      have FIN := Lib.hid fin
      clear fin
      by_cases h1 : m < n
      · have q1 : decide (m < n) = true := by simpa using h1
        clear h1
        go_wp2_with fail
        refine HR1.out.mono ?_
        rintro e w' ⟨rfl, rfl⟩
        go_wp2_with fail
        refine HR2.out.mono ?_
        rintro e w' ⟨rfl, rfl⟩
        go_wp2_with (first
          | (at_builtin; refine wpList_appB _ rfl (.tmp 19) (.tmp 27) rfl w.heap.size (.slice A1 m c1) m _ rfl HOT.out _ 1 1 [b1 ^^^ b2] rfl HBK.out HM1.out HBT.out.size ?_; intro v6 w6 hp6))
        obtain ⟨A6, c6, rfl, HO6, HB6⟩ := FIN.out v6 w6 hp6
        clear hp6
        go_wp2_with fail
        go_roundw
        case rel => exact ⟨m + 1, m + 1, A6, c6, by have := HKM.out; omega, by go_num, rfl, rfl, HO6, HB6⟩
        case measure => simp [intOf]; have := HKM.out; omega
      · have h2 : m < n' := by have := HKM.out; omega
        have q1 : decide (m < n) = false := by simpa using h1
        have q2 : decide (m < n') = true := by simpa using h2
        clear h1 h2
        go_wp2_with fail
        refine HR1.out.mono ?_
        rintro e w' ⟨rfl, rfl⟩
        go_wp2_with fail
        refine HR2.out.mono ?_
        rintro e w' ⟨rfl, rfl⟩
        go_wp2_with (first
          | (at_builtin; refine wpList_appB _ rfl (.tmp 19) (.tmp 27) rfl w.heap.size (.slice A1 m c1) m _ rfl HOT.out _ 1 1 [b1 ^^^ b2] rfl HBK.out HM1.out HBT.out.size ?_; intro v6 w6 hp6))
        obtain ⟨A6, c6, rfl, HO6, HB6⟩ := FIN.out v6 w6 hp6
        clear hp6
        go_wp2_with fail
        go_roundw
        case rel => exact ⟨m + 1, m + 1, A6, c6, by have := HKM.out; omega, by go_num, rfl, rfl, HO6, HB6⟩
        case measure => simp [intOf]; have := HKM.out; omega
    · have hkm : k = max n n' := by omega
      have q1 : decide (k < n) = false := by simp; omega
      have q2 : decide (k < n') = false := by simp; omega
      have HX : Hid (xoK p q k = Py.xorL p q) := Lib.hid (by rw [Py.xorL, HP.out.1, HQ.out.1, hkm]; rfl)
      subst hm
      obtain ⟨A2, c2, e1, b1⟩ := BS.of_own ho.out (by have := HN.out; have := HN'.out; unfold lim; omega)
      injection e1 with e11 e12 e13
      subst e11 e13
      rw [HX.out] at b1
      have HBS := Lib.hid b1
      clear b1 e12 hkm hlt hk
      go_wp2_with fail
      refine (rtrim_any A1 m c1 (Py.xorL p q) wr HBS.out).mono ?_
      rintro e w5 ⟨v5, rfl, A5, n5, c5, rfl, hb5, ha5, hx5⟩
      have HG : Hid (GvB (Py.addP p q) w (.slice A5 n5 c5) w5) := Lib.hid ⟨A5, n5, c5, rfl, hb5, fun a ea => Nat.le_trans hb.out.size (ha5 a ea), below_then hb.out hx5⟩
      clear hb5 ha5 hx5
      go_wp2_with fail
      go_ret
      exact ⟨_, rfl, HG.out⟩
end Go.Proofs.Ytakedococfklgaa
