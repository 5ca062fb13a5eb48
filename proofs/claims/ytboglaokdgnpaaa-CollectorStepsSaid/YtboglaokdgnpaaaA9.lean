/- Several texts in one: Ca, Cb, Cc, Cd. -/
import Derived.Test.YtboglaokdgnpaaaA8
import Derived.Lib.Hide
import Derived.LoopTactic
import Derived.Deep.QuietTactic
import Derived.BigQuiet
import Derived.OwnWalk
import Derived.IntWalk
import Derived.Deep.LoopGhost
/- The reference's Has, In, Live, Covered, Wanted, bytes. -/
namespace Go.Proofs.Ytboglaokdgnpaaa
open Go Go.RowKit Gf Sha

theorem ret_bool {a b : Bool} (h : a = b) : Ending.returned (.bool a) = .returned (.bool b) := by rw [h]
theorem LS.len_le {α : Type} {R : Rdg α} {s b n c : Nat} {w : World} {A : Option Addr} {L : List α} (h : LS R s b w A n c L) : n * b ≤ 140737488355328 := by have := h.2.2.1; unfold lim at this; exact this
theorem LS.str_at {w w' : World} {A : Option Addr} {n c : Nat} {m : List (List UInt8)} (h : LS rStr 1 16 w A n c m) (hb : Below w.heap.size w w') {k : Nat} (hk : k < n) :
  ∃ x g o, m[k]? = some x ∧ A = some ⟨g, o, none⟩ ∧ w'.cell? ⟨g, o + k, none⟩ = some (.string (strB x)) := by
 obtain ⟨x, g, o, cs, hx, e, hat, rfl, _⟩ := h.at_ stay_str hb hk
 refine ⟨x, g, o, hx, e, ?_⟩
 rw [Nat.mul_one] at hat
 exact hat 0 _ rfl

section
variable {P : Program} (w : World) {ops : Array Oper} {rest : List Oper} {o : Oper} {a : Act} {Q : Exit → Act → World → Prop}
theorem wpList_want (hw : Region.wanted o (yielded ops a.tmps) = true)
  (h : ∀ K : Act → World → Prop, (∀ a w, wpList P ops Q rest a w → K a w) → o.wp P a w K Q) : wpList P ops Q (o :: rest) a w :=
 wpList_step fun K hK => by rw [if_pos hw]; exact h K hK
/-- A guarded load of many cells whose guard holds. -/
theorem wpList_loadvg (hw : Region.wanted o (yielded ops a.tmps) = true) (t : TypeId) (x : Operand) (hop : o.op = .load t x) (n : Nat) (ht : Agg P t n = true) (g p : Nat) (ms : List Value) (hx : a.eval x = .pointer (some ⟨g, p, none⟩))
  (hm : At w g p ms) (hn : ms.length = n) (h : wpList P ops Q rest (a.put o.dst (.agg ms.toArray)) w) : wpList P ops Q (o :: rest) a w :=
 wpList_want w hw fun K hK => by
  unfold Oper.wp execOp
  simp only [hop, hx]
  simp [run_loadAt w ht hm hn, Result.andThen]
  exact hK _ _ h
end

set_option maxHeartbeats 400000 in
theorem has_any (A : Option Addr) (n c : Nat) (m : List (List UInt8)) (s : List UInt8) (w : World) (h : LS rStr 1 16 w A n c m) :
  Calls Try.prog 43 #[.slice A n c, .string (strB s)] w fun e w' => e = .returned (.bool (hasB m s)) ∧ w' = w := by
 have hn := h.len_le
 have H := Lib.hid h
 have HL := Lib.hid h.1
 clear h
 go_enter Try.func43, Try.ntmps43
 go_wp2_with fail
 go_loopw [9] (fun iv wr => wr = w ∧ ∃ k : Nat, k ≤ n ∧ iv = .int .i64 (k : Int) ∧ Hid (hasB (m.take k) s = false)) (fun iv _ => n - (intOf iv).toNat)
 case atStart => exact ⟨rfl, 0, by omega, rfl, Lib.hid rfl⟩
 case round =>
  obtain ⟨rfl, k, hk, rfl, hall⟩ := hrel
  by_cases hlt : k < n
  ·
   obtain ⟨x, g, o, hx, rfl, q1⟩ := H.out.str_at (Below.refl _ _) hlt
   have HX := Lib.hid hx
   by_cases hs : x = s
   ·
    have es : ((strB x).toList == (strB s).toList) = true := by rw [strB_eq]; exact decide_eq_true hs
    have HR : Hid (hasB m s = true) := Lib.hid (any_hit HX.out (by simpa using hs))
    clear hs hx
    go_wp2_with fail
    go_ret
    exact ⟨ret_bool HR.out.symm, rfl⟩
   ·
    have es : ((strB x).toList == (strB s).toList) = false := by rw [strB_eq]; exact decide_eq_false hs
    have HR : Hid (hasB (m.take (k + 1)) s = false) := Lib.hid (any_step HX.out hall.out (by simpa using hs))
    clear hs hx
    go_wp2_with fail
    go_roundw
    case rel => exact ⟨trivial, k + 1, by omega, by go_num, HR⟩
    case measure => simp [intOf]; omega
  ·
   obtain rfl : k = n := by omega
   go_wp2_with fail
   go_ret
   exact ⟨ret_bool (by have := hall.out; rw [take_end HL.out] at this; exact this.symm), rfl⟩
end Go.Proofs.Ytboglaokdgnpaaa
/- The reference's In, Live, Covered, Wanted, bytes. -/
namespace Go.Proofs.Ytboglaokdgnpaaa
open Go Go.RowKit Gf Sha

end Go.Proofs.Ytboglaokdgnpaaa
/- The reference's Live, Covered, Wanted, bytes. -/
namespace Go.Proofs.Ytboglaokdgnpaaa
open Go Go.RowKit Gf Sha

end Go.Proofs.Ytboglaokdgnpaaa
/- The reference's Wanted, bytes, IsUnneeded, IsSparse, Uncovered. -/
namespace Go.Proofs.Ytboglaokdgnpaaa
open Go Go.RowKit Gf Sha

end Go.Proofs.Ytboglaokdgnpaaa
