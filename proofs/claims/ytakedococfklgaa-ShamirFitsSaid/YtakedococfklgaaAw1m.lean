/- What the examples of the chapter come to, and shares that a literal builds. -/
import Derived.Test.YtakedococfklgaaAw0m
import Derived.Test.YtakedococfklgaaB2
import Derived.Test.YtakedococfklgaaB3
import Derived.Test.YtakedococfklgaaCo4m
import Derived.Test.YtakedococfklgaaFi0m
namespace Go.Proofs.Ytakedococfklgaa
open Go.RowKit Gf

namespace Text
variable {P : Program} {ops : Array Oper} {Q : Exit → Act → World → Prop} {S : World → Prop} {a : Act} {w : World} {t : BT} {i : Nat}
theorem beffw {o : Oper} (ho : ops[i]? = some o) (hw : Region.wanted o (yielded ops a.tmps) = true) (h : ∀ K : Act → World → Prop, (∀ a w, S w → wpBT P ops Q S t a w → K a w) → o.wp P a w K NoQ) : wpBT P ops Q S (.eff i t) a w := by
  have key : wpOp P ops Q i (fun a' w' => S w' ∧ wpBT P ops Q S t a' w') a w := by
    unfold wpOp
    simp only [ho]
    rw [if_pos hw]
    exact .inl (wp_of_noQ (h _ fun _ _ h1 h2 => ⟨h1, h2⟩))
  with_unfolding_all exact key
end Text

theorem ex_splE : splE [7] [[2]] [1, 2, 3] = 0 := by decide +kernel
theorem ex_splL : splL [7] [[2]] [1, 2, 3] = [(1, [5]), (2, [3]), (3, [1])] := by decide +kernel
theorem ex_ck : ckE [(1, [5]), (2, [3])] 2 = 0 := by decide +kernel
theorem ex_cb : cbL [(1, [5]), (2, [3])] 2 0 = [7] := by decide +kernel
theorem ex_exE : exE [(1, [5]), (2, [3])] 2 3 = 0 := by decide +kernel
theorem ex_exX : exX [(1, [5]), (2, [3])] 2 3 = 3 := by decide +kernel
theorem ex_exL : exL [(1, [5]), (2, [3])] 2 3 = [1] := by decide +kernel
theorem ex_shW : shB [(1, [1]), (2, [3]), (3, [1]), (4, [15])] = true := by decide +kernel
theorem ex_wrK : wrK [(1, [1]), (2, [3]), (3, [1]), (4, [15])] 2 1 1 = some [true, false, false, false] := by decide +kernel
theorem ex_wr : wrF [(1, [1]), (2, [3]), (3, [1]), (4, [15])] 2 = some [1] := by
  have h1 : ((([(1, [1]), (2, [3]), (3, [1]), (4, [15])] : List (Int × List UInt8)).length - 2) / 2) = 1 := by decide
  have h2 : (gS ([(1, [1]), (2, [3]), (3, [1]), (4, [15])] : List (Int × List UInt8)) 0).2.length = 1 := by decide
  unfold wrF
  rw [h1, h2, ex_wrK]
  have h3 : reK ([(1, [1]), (2, [3]), (3, [1]), (4, [15])] : List (Int × List UInt8)) [true, false, false, false] 4 = [1] := by decide
  show (if 1 < (reK _ _ 4).length then none else some (isort (reK _ _ 4))) = _
  rw [h3]
  simp [isort]
theorem ex_shF : shB [(1, [5])] = true := by decide +kernel
theorem ex_fi : fiM [9] [(1, [5])] = [[12]] := by decide +kernel
theorem ex_ctE : ctE 1 3 = 0 := by decide +kernel
theorem ex_ctV : ctV 1 3 false = 65536 := by decide +kernel
theorem ex_ck0 : ckE [] 2 = 10 := by decide +kernel
theorem ex_cb0 : cbL [] 2 0 = [] := by decide +kernel

theorem ss_lit {w : World} {g n : Nat} {cs : Array Value} {l : List (Int × List UInt8)} (h : Blk w g 33 cs) (hn : l.length = n) (h64 : n ≤ 64) (hr : ∀ k, k < n → ∃ A n' c', cs[k * 2]? = some (.int .i64 (gS l k).1) ∧ cs[k * 2 + 1]? = some (.slice A n' c') ∧ BS w A n' c' (gS l k).2) : SS w (some ⟨g, 0, none⟩) n n l :=
  ⟨hn, Nat.le_refl _, by unfold lim; omega, fun k hk => by
    obtain ⟨A, n', c', h1, h2, h3⟩ := hr k hk
    exact ⟨g, 0, A, n', c', rfl, by rw [h.cell, Nat.zero_add]; exact h1, by rw [h.cell, Nat.zero_add]; exact h2, h3⟩⟩
theorem bs1 {w : World} {g : Nat} {y : UInt8} (h : Blk w g 5 (row [y])) : BS w (some ⟨g, 0, none⟩) 1 1 [y] := BS.of_blk h rfl (by decide)
theorem ss1 {w : World} {g : Nat} {x : Int} {l : List UInt8} {A : Option Addr} {n c : Nat} (h : Blk w g 33 #[.int .i64 x, .slice A n c]) (h1 : BS w A n c l) : SS w (some ⟨g, 0, none⟩) 1 1 [(x, l)] :=
  ss_lit h rfl (by omega) (fun k hk => match k, hk with
    | 0, _ => ⟨_, _, _, rfl, rfl, h1⟩)
theorem ss2 {w : World} {g g1 g2 : Nat} {x1 x2 : Int} {y1 y2 : UInt8} (h : Blk w g 33 #[.int .i64 x1, .slice (some ⟨g1, 0, none⟩) 1 1, .int .i64 x2, .slice (some ⟨g2, 0, none⟩) 1 1]) (h1 : Blk w g1 5 (row [y1])) (h2 : Blk w g2 5 (row [y2])) : SS w (some ⟨g, 0, none⟩) 2 2 [(x1, [y1]), (x2, [y2])] :=
  ss_lit h rfl (by omega) (fun k hk => match k, hk with
    | 0, _ => ⟨_, _, _, rfl, rfl, bs1 h1⟩
    | 1, _ => ⟨_, _, _, rfl, rfl, bs1 h2⟩)
theorem ss3 {w : World} {g g1 g2 g3 : Nat} {x1 x2 x3 : Int} {y1 y2 y3 : UInt8} (h : Blk w g 33 #[.int .i64 x1, .slice (some ⟨g1, 0, none⟩) 1 1, .int .i64 x2, .slice (some ⟨g2, 0, none⟩) 1 1, .int .i64 x3, .slice (some ⟨g3, 0, none⟩) 1 1]) (h1 : Blk w g1 5 (row [y1])) (h2 : Blk w g2 5 (row [y2])) (h3 : Blk w g3 5 (row [y3])) : SS w (some ⟨g, 0, none⟩) 3 3 [(x1, [y1]), (x2, [y2]), (x3, [y3])] :=
  ss_lit h rfl (by omega) (fun k hk => match k, hk with
    | 0, _ => ⟨_, _, _, rfl, rfl, bs1 h1⟩
    | 1, _ => ⟨_, _, _, rfl, rfl, bs1 h2⟩
    | 2, _ => ⟨_, _, _, rfl, rfl, bs1 h3⟩)
theorem ss4 {w : World} {g g1 g2 g3 g4 : Nat} {x1 x2 x3 x4 : Int} {y1 y2 y3 y4 : UInt8} (h : Blk w g 33 #[.int .i64 x1, .slice (some ⟨g1, 0, none⟩) 1 1, .int .i64 x2, .slice (some ⟨g2, 0, none⟩) 1 1, .int .i64 x3, .slice (some ⟨g3, 0, none⟩) 1 1, .int .i64 x4, .slice (some ⟨g4, 0, none⟩) 1 1]) (h1 : Blk w g1 5 (row [y1])) (h2 : Blk w g2 5 (row [y2])) (h3 : Blk w g3 5 (row [y3])) (h4 : Blk w g4 5 (row [y4])) : SS w (some ⟨g, 0, none⟩) 4 4 [(x1, [y1]), (x2, [y2]), (x3, [y3]), (x4, [y4])] :=
  ss_lit h rfl (by omega) (fun k hk => match k, hk with
    | 0, _ => ⟨_, _, _, rfl, rfl, bs1 h1⟩
    | 1, _ => ⟨_, _, _, rfl, rfl, bs1 h2⟩
    | 2, _ => ⟨_, _, _, rfl, rfl, bs1 h3⟩
    | 3, _ => ⟨_, _, _, rfl, rfl, bs1 h4⟩)
theorem is_lit {w : World} {g n : Nat} {z : List Int} (h : Blk w g 3 ((z.map (Value.int .i64)).toArray)) (hz : z.length = n) (hn : n ≤ 64) : IS w (some ⟨g, 0, none⟩) n n z :=
  ⟨hz, Nat.le_refl _, by unfold lim; omega, fun k hk => ⟨g, 0, rfl, by
    rw [h.cell, Nat.zero_add]
    show _ = some (Value.int .i64 (gI z k))
    rw [gI_eq (by omega)]
    simp [show k < z.length by omega]⟩⟩
theorem ms1 {w : World} {g g1 : Nat} {y : UInt8} (h : Blk w g 22 #[.slice (some ⟨g1, 0, none⟩) 1 1]) (h1 : Blk w g1 5 (row [y])) : MS w (some ⟨g, 0, none⟩) 1 1 [[y]] :=
  ⟨rfl, Nat.le_refl _, by decide, fun k hk => by
    obtain rfl : k = 0 := by omega
    exact ⟨g, 0, _, 1, 1, rfl, by rw [h.cell]; rfl, bs1 h1⟩⟩
theorem blk_at {w : World} {g : Nat} (hg : w.heap.size = g) (t : TypeId) (cs : Array Value) : Blk (w.alloc (.cells cs t)) g t cs := by subst hg; exact Blk.new w t cs
theorem kb1 (w : World) (o : Obj) : Below w.heap.size w (w.alloc o) := (Below.refl _ _).alloc (Nat.le_refl _) _
end Go.Proofs.Ytakedococfklgaa
