/- Several texts in one: Wa, Wb. -/
import Derived.Test.YtboglaokdgnpaaaA27
import Derived.Test.YtboglaokdgnpaaaA28
import Derived.Test.YtboglaokdgnpaaaA11
/- law49: word; the plain facts of the law's examples. -/
namespace Go.Proofs.Ytboglaokdgnpaaa
open Go Go.RowKit Gf Sha

theorem strB_app (a b : List UInt8) : strB a ++ strB b = strB (a ++ b) := by
 rw [ByteArray.ext_iff]
 simp [strB, ByteArray.data_append]
theorem strB_nil : ({ data := #[] } : ByteArray) = strB [] := rfl
theorem cat_ok (a b : List UInt8) (h : a.length + b.length ≤ 9223372036854775807) : ¬ 9223372036854775807 < (strB a).size + (strB b).size := by
 rw [strB_size, strB_size]; omega
attribute [local go_sem] strB_app
def wdC (c : UInt8) : List UInt8 := List.replicate 32 c
def wdK (c : UInt8) (k : Nat) : List UInt8 := List.replicate k c
theorem wdK_succ (c : UInt8) (k : Nat) : wdK c k ++ [c] = wdK c (k + 1) := by unfold wdK; rw [List.replicate_succ']
theorem wdK_len (c : UInt8) (k : Nat) : (wdK c k).length = k := by simp [wdK]
theorem bslU1 (c : UInt8) (w : World) : (Instr.buildSlice 114 1 #[(0, B c)]).run Try.prog w = .ok (.slice (some ⟨w.heap.size, 0, none⟩) 1 1) (w.alloc (.cells ([c].map B).toArray 5)) := by kernel_rfl
set_option maxRecDepth 100000 in
theorem word_any (c : UInt8) (w : World) : Calls Try.prog 37 #[B c] w fun e w' => e = .returned (.string (strB (wdC c))) ∧ Below w.heap.size w w' := by
 go_enter Try.func37, Try.ntmps37
 rw [strB_nil]
 go_wp2_with fail
 go_loopw [3, 4] (fun v iv wr => ∃ k : Nat, k ≤ 32 ∧ iv = .int .i64 (k : Int) ∧ v = .string (strB (wdK c k)) ∧ Hid (Below w.heap.size w wr)) (fun _ iv _ => 32 - (intOf iv).toNat)
 case atStart => exact ⟨0, by omega, rfl, rfl, Lib.hid (Below.refl _ _)⟩
 case round =>
  obtain ⟨k, hk, rfl, rfl, hb⟩ := hrel
  obtain ⟨wx, hwx⟩ : ∃ x, x = wr := ⟨_, rfl⟩
  rw [← hwx] at hb ⊢
  clear hwx
  by_cases hlt : k < 32
  ·
   have e1 := wdK_succ c k
   have e2 := cat_ok (wdK c k) [c] (by rw [wdK_len]; simp; omega)
   go_wp2_with (first
    | ((with_reducible show OpW 11); refine wpList_bslice _ rfl 114 5 1 _ rfl #[(0, B c)] (by rw [List.map_toArray]; rfl) ([c].map B) (bslU1 c _) ?_; intro w1 a1 a2 a3; have HX1 := Lib.hid a2; have cv := conv_str (BL.bs a1 (n := 1) rfl (by decide)); clear a1 a2 a3))
   go_roundw
   case rel => exact ⟨k + 1, by omega, by go_num, rfl, Lib.hid (below_thenB hb.out hb.out.size HX1.out)⟩
   case measure => simp [intOf]; omega
  ·
   obtain rfl : k = 32 := by omega
   go_wp2_with fail
   go_ret
   exact ⟨rfl, hb.out⟩
theorem word_at (c : UInt8) (v : Value) (hv : v = B c) (w : World) : Calls Try.prog 37 #[v] w fun e w' => e = .returned (.string (strB (wdC c))) ∧ Below w.heap.size w w' := by
 subst hv; exact word_any c w
theorem wc97 : Value.int .u8 97 = B 97 := rfl
theorem wc98 : Value.int .u8 98 = B 98 := rfl
theorem wc99 : Value.int .u8 99 = B 99 := rfl
theorem wc83 : Value.int .u8 83 = B 83 := rfl
theorem wc84 : Value.int .u8 84 = B 84 := rfl
theorem wc85 : Value.int .u8 85 = B 85 := rfl
def rfA : Rf := (wdC 97, 0, 10)
def rfBb : Rf := (wdC 98, 0, 30)
def rfCc : Rf := (wdC 99, 0, 5)
def spS : Sp := ⟨wdC 83, 0, 64, 2, 3, [rfA, rfBb]⟩
def spT : Sp := ⟨wdC 84, 0, 64, 2, 3, [rfCc]⟩
def spU : Sp := ⟨wdC 85, 0, 64, 2, 3, [rfA]⟩
def exX1 : Si := ⟨[spS, spT], [wdC 97, wdC 99], [], [], [], [], 50⟩
def exX2 : Si := ⟨[spS, spT, spU], [wdC 97, wdC 99], [], [], [], [], 50⟩
def exX3 : Si := ⟨[spS, spT, spU], [wdC 97, wdC 99], [], [], [wdC 85], [], 50⟩
def exX4 : Si := ⟨[], [], [], [], [], [], 101⟩
def exRw : Stp := ⟨1, [wdC 83], ([], 0), [rfA]⟩
def exPr : Stp := ⟨2, [wdC 83], ([], 0), []⟩
set_option maxRecDepth 100000 in
theorem ex_si1 : siB exX1 = true := by decide +kernel
set_option maxRecDepth 100000 in
theorem ex_si2 : siB exX2 = true := by decide +kernel
set_option maxRecDepth 100000 in
theorem ex_si3 : siB exX3 = true := by decide +kernel
theorem ex_si4 : siB exX4 = false := by decide +kernel
set_option maxRecDepth 100000 in
theorem ex_g1 : (pRun exX1 exX1.sp).2 = [] := by decide +kernel
set_option maxRecDepth 100000 in
theorem ex_g2 : (pRun exX2 exX2.sp).2 = [] := by decide +kernel
set_option maxRecDepth 100000 in
theorem ex_g3 : (pRun exX3 exX3.sp).2 = [wdC 83] := by decide +kernel
set_option maxRecDepth 100000 in
theorem ex_r1 : rwIds exX1 exX1.sp = [wdC 83] ∧ rwRefs exX1 exX1.sp = [rfA] ∧ fgIds exX1 exX1.sp = [] := by decide +kernel
set_option maxRecDepth 100000 in
theorem ex_r2 : rwIds exX2 exX2.sp = [] ∧ fgIds exX2 exX2.sp = [] := by decide +kernel
set_option maxRecDepth 100000 in
theorem ex_r3 : rwIds exX3 exX3.sp = [] ∧ fgIds exX3 exX3.sp = [] := by decide +kernel
theorem ssort_nil : ssort [] = [] := by simp [ssort]
theorem ssort_one (a : List UInt8) : ssort [a] = [a] := by simp [ssort]
theorem ex_p1 : planL exX1 = [exRw] := by
 obtain ⟨h1, h2, h3⟩ := ex_r1
 have hd : dels exX1 exX1.held = [] := rfl
 rw [planL, hd, fgStp, rwStp, prStp, h1, h2, h3, ex_g1, ssort_nil]
 rfl
theorem ex_p2 : planL exX2 = [] := by
 obtain ⟨h1, h2⟩ := ex_r2
 have hd : dels exX2 exX2.held = [] := rfl
 rw [planL, hd, fgStp, rwStp, prStp, h1, h2, ex_g2, ssort_nil]
 rfl
theorem ex_p3 : planL exX3 = [exPr] := by
 obtain ⟨h1, h2⟩ := ex_r3
 have hd : dels exX3 exX3.held = [] := rfl
 rw [planL, hd, fgStp, rwStp, prStp, h1, h2, ex_g3, ssort_one]
 rfl
set_option maxRecDepth 100000 in
theorem ex_safe : safeB exX3 (st0 exX3) [exPr] = true := by decide +kernel
set_option maxRecDepth 100000 in
theorem ex_ref : refE (st0 exX1) exRw [spU] = 0 := by decide +kernel
end Go.Proofs.Ytboglaokdgnpaaa
/- Laws for the literals of the law's examples. -/
namespace Go.Proofs.Ytboglaokdgnpaaa
open Go Go.RowKit Gf Sha

section
variable {P : Program} {o : Oper} {a : Act} {w : World}
theorem exec_bsl {t : TypeId} {n : Nat} {parts : Array (Nat × Operand)} (hop : o.op = .buildSlice t n parts) {ps : Array (Nat × Value)} (hps : (parts.map fun (i, x) => (i, a.eval x)) = ps) {v : Value} {w' : World} (hr : (Instr.buildSlice t n ps).run P w = .ok v w') : (execOp a.eval o).run P w = .ok (.value v) w' := by
 unfold execOp
 simp only [hop, hps]
 simp [hr, Result.andThen]
theorem exec_alloc {t : TypeId} {l : List Value} (hop : o.op = .alloc t) (hz : (P.info? t).map (·.zero) = some (some (.agg l.toArray))) : (execOp a.eval o).run P w = .ok (.value (.pointer (some ⟨w.heap.size, 0, none⟩))) (w.alloc (.cells l.toArray t)) := by
 cases hi : P.info? t with
 | none => simp [hi] at hz
 | some i =>
  have hz' : i.zero = some (.agg l.toArray) := by simpa [hi] using hz
  unfold execOp
  simp only [hop]
  simp [Instr.alloc, zeroValue, typeInfo, hi, hz', newVar, newRow, Value.cells, Result.andThen]
end
section
variable {o : Oper} {a : Act} {w : World}
theorem exec_callW {x : Operand} {v : Value} {ts : Array TypeId} (hop : o.op = .call { callee := .value (.func 37), args := #[x], argTypes := ts }) (hx : a.eval x = v) : (execOp a.eval o).run Try.prog w = .ok (.enter 37 #[v]) w := by
 have hf : a.eval (.func 37) = .func (.func 37) #[] #[] := rfl
 unfold execOp
 simp only [hop]
 simp only [resolve, invoke, hf, List.map_toArray, List.map_cons, List.map_nil, hx]
 go_simp <;> rfl
end
def slR (base : Nat) (te : TypeId) (l : List Value) (n : Nat) : World → Value → Prop := fun w v => ∃ g, v = .slice (some ⟨g, 0, none⟩) n n ∧ base ≤ g ∧ BL w g te l
def ptR (base : Nat) (te : TypeId) (l : List Value) : World → Value → Prop := fun w v => ∃ g, v = .pointer (some ⟨g, 0, none⟩) ∧ base ≤ g ∧ BL w g te l
abbrev stpC (c : UInt8) (g n : Nat) : List Value := [.string (strB (wdC c)), .int .i64 0, .int .i64 64, .int .i64 2, .int .i64 3, .slice (some ⟨g, 0, none⟩) n n]
def spR (base : Nat) (c : UInt8) (l : List Value) (n : Nat) : World → Value → Prop := fun w v => ∃ g, v = .agg (stpC c g n).toArray ∧ base ≤ g ∧ BL w g 73 l
theorem stay_slR (base : Nat) (te : TypeId) (l : List Value) (n : Nat) : Text.StayS (slR base te l n) := fun _ _ _ ⟨g, h1, h2, h3⟩ hb => ⟨g, h1, h2, h3.kept hb⟩
theorem stay_ptR (base : Nat) (te : TypeId) (l : List Value) : Text.StayS (ptR base te l) := fun _ _ _ ⟨g, h1, h2, h3⟩ hb => ⟨g, h1, h2, h3.kept hb⟩
theorem stay_spR (base : Nat) (c : UInt8) (l : List Value) (n : Nat) : Text.StayS (spR base c l n) := fun _ _ _ ⟨g, h1, h2, h3⟩ hb => ⟨g, h1, h2, h3.kept hb⟩
theorem bldRf (s : ByteArray) (i : Int) (w : World) : (Instr.build 73 #[(0, .string s), (2, .int .i64 i)]).run Try.prog w = .ok (.agg [.string s, .int .i64 0, .int .i64 i].toArray) w := by kernel_rfl
theorem bldSp (s : ByteArray) (A : Option Addr) (n c : Nat) (w : World) : (Instr.build 61 #[(0, .string s), (2, .int .i64 64), (3, .int .i64 2), (4, .int .i64 3), (5, .slice A n c)]).run Try.prog w = .ok (.agg [.string s, .int .i64 0, .int .i64 64, .int .i64 2, .int .i64 3, .slice A n c].toArray) w := by kernel_rfl
theorem bslRf2 (r q : Rf) (w : World) : (Instr.buildSlice 40 2 #[(0, .agg (rfL r).toArray), (1, .agg (rfL q).toArray)]).run Try.prog w = .ok (.slice (some ⟨w.heap.size, 0, none⟩) 2 2) (w.alloc (.cells (rfL r ++ rfL q).toArray 73)) := by kernel_rfl
theorem bslSp1 (c : UInt8) (g n : Nat) (w : World) : (Instr.buildSlice 22 1 #[(0, .agg (stpC c g n).toArray)]).run Try.prog w = .ok (.slice (some ⟨w.heap.size, 0, none⟩) 1 1) (w.alloc (.cells (stpC c g n).toArray 61)) := by kernel_rfl
theorem bslSp2 (c : UInt8) (g n : Nat) (c' : UInt8) (g' n' : Nat) (w : World) : (Instr.buildSlice 22 2 #[(0, .agg (stpC c g n).toArray), (1, .agg (stpC c' g' n').toArray)]).run Try.prog w = .ok (.slice (some ⟨w.heap.size, 0, none⟩) 2 2) (w.alloc (.cells (stpC c g n ++ stpC c' g' n').toArray 61)) := by kernel_rfl
theorem bslSt2 (s t : ByteArray) (w : World) : (Instr.buildSlice 23 2 #[(0, .string s), (1, .string t)]).run Try.prog w = .ok (.slice (some ⟨w.heap.size, 0, none⟩) 2 2) (w.alloc (.cells [.string s, .string t].toArray 9)) := by kernel_rfl
theorem bldSi3 (A0 : Option Addr) (n0 c0 : Nat) (A1 : Option Addr) (n1 c1 : Nat) (w : World) : (Instr.build 33 #[(0, .slice A0 n0 c0), (1, .slice A1 n1 c1), (6, .int .i64 50)]).run Try.prog w = .ok (.agg (siC A0 n0 c0 A1 n1 c1 none 0 0 none 0 0 none 0 0 none 0 0 50).toArray) w := by kernel_rfl
theorem bldSi4 (w : World) : (Instr.build 33 #[(6, .int .i64 101)]).run Try.prog w = .ok (.agg (siC none 0 0 none 0 0 none 0 0 none 0 0 none 0 0 none 0 0 101).toArray) w := by kernel_rfl
theorem LS.of_bl {α : Type} {R : Rdg α} {s b n g : Nat} {w : World} {te : TypeId} {L : List α} {css : List (List Value)} (h : BL w g te css.flatten) (h2 : ∀ cs ∈ css, cs.length = s) (hl : css.length = L.length) (hR : ∀ k (h : k < L.length) (h' : k < css.length), R w css[k] L[k]) (hn : L.length = n) (hb : n * b ≤ lim) : LS R s b w (some ⟨g, 0, none⟩) n n L :=
 ⟨hn, Nat.le_refl _, hb, fun k hk => ⟨g, 0, css[k]'(by omega), rfl, at_flatten h2 h.all (by omega), hR k hk (by omega)⟩⟩
theorem reach32 (c : UInt8) : (wdC c).length ≤ reachBytes := by
 show (List.replicate 32 c).length ≤ reachBytes
 rw [List.length_replicate]; decide
theorem ok_ex (c : UInt8) (z : Int) (hz : wfI z) : okRf ((wdC c, 0, z) : Rf) := ⟨reach32 c, rfl, hz⟩
/-- The refs of an example. -/
theorem ls_rf {w : World} {g : Nat} {L : List Rf} (h : BL w g 73 (L.map rfL).flatten) (hok : ∀ r ∈ L, okRf r) (hb : L.length * 32 ≤ lim) : LS rRf 3 32 w (some ⟨g, 0, none⟩) L.length L.length L :=
 LS.of_bl (css := L.map rfL) h (fun cs hcs => by obtain ⟨r, _, rfl⟩ := List.mem_map.1 hcs; rfl) (by simp) (fun k hk hk' => ⟨by simp [rfC], hok _ (List.getElem_mem _)⟩) rfl hb
theorem sp_ex {w : World} {c : UInt8} {g : Nat} {L : List Rf} (h : BL w g 73 (L.map rfL).flatten) (hok : ∀ r ∈ L, okRf r) (hb : L.length * 32 ≤ lim) : rSp w (stpC c g L.length) ⟨wdC c, 0, 64, 2, 3, L⟩ :=
 ⟨_, _, _, rfl, ls_rf h hok hb, reach32 c, rfl, rfl, rfl, rfl⟩
def siR (base : Nat) (l : List Value) (m : List Value) : World → Value → Prop := fun w v => ∃ ga gb, v = .agg (siC (some ⟨ga, 0, none⟩) 2 2 (some ⟨gb, 0, none⟩) 2 2 none 0 0 none 0 0 none 0 0 none 0 0 50).toArray ∧ base ≤ ga ∧ base ≤ gb ∧ BL w ga 61 l ∧ BL w gb 9 m
theorem stay_siR (base : Nat) (l m : List Value) : Text.StayS (siR base l m) := fun _ _ _ ⟨ga, gb, h1, h2, h3, h4, h5⟩ hb => ⟨ga, gb, h1, h2, h3, h4.kept hb, h5.kept hb⟩
theorem ls_st {w : World} {g : Nat} {L : List (List UInt8)} (h : BL w g 9 (L.map usC)) (hok : ∀ r ∈ L, r.length ≤ reachBytes) (hb : L.length * 16 ≤ lim) : LS rStr 1 16 w (some ⟨g, 0, none⟩) L.length L.length L :=
 LS.of_bl (css := L.map fun x => [usC x]) (by
  have e : ∀ M : List (List UInt8), (M.map fun x => [usC x]).flatten = M.map usC := by
   intro M
   induction M with
   | nil => rfl
   | cons a l ih => simp [ih]
  rw [e]; exact h) (fun cs hcs => by obtain ⟨r, _, rfl⟩ := List.mem_map.1 hcs; rfl) (by simp) (fun k hk hk' => ⟨by simp [usC], hok _ (List.getElem_mem _)⟩) rfl hb
/-- Elements that begin with a string do not lie in a situation's block. -/
theorem LS.put {α : Type} {R : Rdg α} {s b n c g : Nat} {w w' : World} {A : Option Addr} {L : List α} {t : TypeId} {b0 b1 b2 b3 b4 b5 : Option Addr} {k0 d0 k1 d1 k2 d2 k3 d3 k4 d4 k5 d5 : Nat} {p : Int} (h : LS R s b w A n c L) (hk : Kp (· = g) w w') (hb : BL w g t (siC b0 k0 d0 b1 k1 d1 b2 k2 d2 b3 k3 d3 b4 k4 d4 b5 k5 d5 p)) (hf : ∀ cs x, R w cs x → ∃ z r, cs = .string z :: r) (hR : ∀ cs x, R w cs x → R w' cs x) : LS R s b w' A n c L :=
 ⟨h.1, h.2.1, h.2.2.1, fun k hk' => by
  obtain ⟨g', o, cs, e, h1, h2⟩ := h.2.2.2 k hk'
  obtain ⟨z, r, rfl⟩ := hf _ _ h2
  have hc := h1 0 _ rfl
  have hne : g' ≠ g := fun e9 => by
   subst e9
   have hb' : w.heap[g']? = some (.cells (siC b0 k0 d0 b1 k1 d1 b2 k2 d2 b3 k3 d3 b4 k4 d4 b5 k5 d5 p).toArray t) := hb
   have : ∀ j : Nat, (siC b0 k0 d0 b1 k1 d1 b2 k2 d2 b3 k3 d3 b4 k4 d4 b5 k5 d5 p)[j]? ≠ some (Value.string z) := fun j hj => by
    have hm := List.mem_of_getElem? hj
    simp at hm
   simp [World.cell?, hb'] at hc
   exact this _ (by simpa using hc)
  exact ⟨g', o, _, e, h1.kp hk hne, hR _ _ h2⟩⟩
theorem SiOk.put {g : Nat} {w w' : World} {t : TypeId} {a0 a1 a2 a3 a4 a5 : Option Addr} {n0 c0 n1 c1 n2 c2 n3 c3 n4 c4 n5 c5 : Nat} {b0 b1 b2 b3 b4 b5 : Option Addr} {k0 d0 k1 d1 k2 d2 k3 d3 k4 d4 k5 d5 : Nat} {p : Int} {x : Si} (h : SiOk w a0 n0 c0 a1 n1 c1 a2 n2 c2 a3 n3 c3 a4 n4 c4 a5 n5 c5 x) (hk : Kp (· = g) w w') (hb : BL w g t (siC b0 k0 d0 b1 k1 d1 b2 k2 d2 b3 k3 d3 b4 k4 d4 b5 k5 d5 p)) : SiOk w' a0 n0 c0 a1 n1 c1 a2 n2 c2 a3 n3 c3 a4 n4 c4 a5 n5 c5 x :=
 ⟨h.sp.put hk hb (fun _ _ ⟨_, _, _, e, _⟩ => ⟨_, _, e⟩) (fun _ _ ⟨A, n, c, e, h1, r⟩ => ⟨A, n, c, e, h1.put hk hb (fun _ _ h => ⟨_, _, h.1⟩) (fun _ _ h => h), r⟩), h.need.put hk hb (fun _ _ h => ⟨_, _, h.1⟩) (fun _ _ h => h), h.cond.put hk hb (fun _ _ h => ⟨_, _, h.1⟩) (fun _ _ h => h), h.drop.put hk hb (fun _ _ h => ⟨_, _, h.1⟩) (fun _ _ h => h), h.carr.put hk hb (fun _ _ h => ⟨_, _, h.1⟩) (fun _ _ h => h), h.held.put hk hb (fun _ _ h => ⟨_, _, h.1⟩) (fun _ _ h => h), h.pct⟩
section
variable {w : World} {a0 a1 a2 a3 a4 a5 : Option Addr} {n0 c0 n1 c1 n2 c2 n3 c3 n4 c4 n5 c5 : Nat}
theorem ex_si {gS gT ga gb : Nat} (hS : BL w gS 73 (rfL rfA ++ rfL rfBb)) (hT : BL w gT 73 (rfL rfCc)) (h : BL w ga 61 (stpC 83 gS 2 ++ stpC 84 gT 1)) (hn : BL w gb 9 [.string (strB (wdC 97)), .string (strB (wdC 99))]) :
  SiOk w (some ⟨ga, 0, none⟩) 2 2 (some ⟨gb, 0, none⟩) 2 2 none 0 0 none 0 0 none 0 0 none 0 0 exX1 := by
 have s1 : rSp w (stpC 83 gS 2) spS := sp_ex (L := [rfA, rfBb]) hS (fun r hr => by
  simp only [List.mem_cons, List.not_mem_nil, or_false] at hr
  rcases hr with rfl | rfl
  ·
   exact ok_ex _ _ rfl
  ·
   exact ok_ex _ _ rfl) (by decide)
 have s2 : rSp w (stpC 84 gT 1) spT := sp_ex (L := [rfCc]) hT (fun r hr => by
  simp only [List.mem_cons, List.not_mem_nil, or_false] at hr
  subst hr
  exact ok_ex _ _ rfl) (by decide)
 refine ⟨LS.of_bl (css := [stpC 83 gS 2, stpC 84 gT 1]) h (fun cs hcs => ?_) rfl (fun k hk hk' => ?_) rfl (by decide), ls_st (L := [wdC 97, wdC 99]) hn (fun r hr => ?_) (by decide), LS.nil, LS.nil, LS.nil, LS.nil, rfl⟩
 ·
  simp only [List.mem_cons, List.not_mem_nil, or_false] at hcs
  rcases hcs with rfl | rfl <;> rfl
 ·
  match k, hk with
  | 0, _ => exact s1
  | 1, _ => exact s2
 ·
  simp only [List.mem_cons, List.not_mem_nil, or_false] at hr
  rcases hr with rfl | rfl <;> exact reach32 _
theorem ex_mk {gu gr : Nat} (hr : BL w gr 73 (rfL rfA)) (hu : BL w gu 61 (stpC 85 gr 1)) : LS rSp 6 72 w (some ⟨gu, 0, none⟩) 1 1 [spU] := by
 have s1 : rSp w (stpC 85 gr 1) spU := sp_ex (L := [rfA]) hr (fun r hr => by
  simp only [List.mem_cons, List.not_mem_nil, or_false] at hr
  subst hr
  exact ok_ex _ _ rfl) (by decide)
 exact LS.of_bl (css := [stpC 85 gr 1]) (by simpa using hu) (fun cs hcs => by rw [List.mem_singleton.1 hcs]; rfl) rfl (fun k hk hk' => match k, hk with | 0, _ => s1) rfl (by decide)
/-- The plan of the first example. -/
theorem plan_ex1 (h : SiOk w a0 n0 c0 a1 n1 c1 a2 n2 c2 a3 n3 c3 a4 n4 c4 a5 n5 c5 exX1) : Calls Try.prog 11 #[.agg (siC a0 n0 c0 a1 n1 c1 a2 n2 c2 a3 n3 c3 a4 n4 c4 a5 n5 c5 50).toArray] w fun e w' => ∃ g o c B d g' o' d', e = .returned (.tuple #[.slice (some ⟨g, o, none⟩) 1 c, .int .i64 0]) ∧ At w' g o [.int .i64 1, .slice B 1 d, .string (strB []), .int .i64 0, .slice (some ⟨g', o', none⟩) 1 d'] ∧ At w' g' o' (rfL rfA) ∧ rStp w' [.int .i64 1, .slice B 1 d, .string (strB []), .int .i64 0, .slice (some ⟨g', o', none⟩) 1 d'] exRw ∧ Below w.heap.size w w' := by
 refine (plan_any a0 n0 c0 a1 n1 c1 a2 n2 c2 a3 n3 c3 a4 n4 c4 a5 n5 c5 exX1 w h (by decide) (by decide)).mono ?_
 rintro e w' hp
 unfold TStp at hp
 rw [ex_si1, ex_p1, if_pos rfl] at hp
 obtain ⟨A, c, rfl, hl, hb⟩ := hp
 obtain ⟨y, g, o, cs, hy, rfl, hat, hst⟩ := hl.at_ stay_stp (Below.refl _ _) (k := 0) (by decide)
 obtain rfl : y = exRw := by simpa using hy.symm
 have hst' := hst
 obtain ⟨B, n, d, B1, n1', d1, rfl, l0, l1, _⟩ := hst
 obtain rfl : n = 1 := l0.1.symm
 obtain rfl : n1' = 1 := l1.1.symm
 obtain ⟨r, g', o', cs', hr, rfl, hat', rfl, _⟩ := l1.at_ stay_rf (Below.refl _ _) (k := 0) (by decide)
 obtain rfl : r = rfA := by simpa [exRw] using hr.symm
 exact ⟨g, o, c, B, d, g', o', d1, rfl, (by rw [Nat.zero_mul, Nat.add_zero] at hat; exact hat), (by rw [Nat.zero_mul, Nat.add_zero] at hat'; exact hat'), hst', hb⟩
theorem plan_ex2 (h : SiOk w a0 n0 c0 a1 n1 c1 a2 n2 c2 a3 n3 c3 a4 n4 c4 a5 n5 c5 exX2) : Calls Try.prog 11 #[.agg (siC a0 n0 c0 a1 n1 c1 a2 n2 c2 a3 n3 c3 a4 n4 c4 a5 n5 c5 50).toArray] w fun e w' => ∃ A c, e = .returned (.tuple #[.slice A 0 c, .int .i64 0]) ∧ Below w.heap.size w w' := by
 refine (plan_any a0 n0 c0 a1 n1 c1 a2 n2 c2 a3 n3 c3 a4 n4 c4 a5 n5 c5 exX2 w h (by decide) (by decide)).mono ?_
 rintro e w' hp
 unfold TStp at hp
 rw [ex_si2, ex_p2, if_pos rfl] at hp
 obtain ⟨A, c, rfl, hl, hb⟩ := hp
 exact ⟨A, c, rfl, hb⟩
theorem plan_ex3 (h : SiOk w a0 n0 c0 a1 n1 c1 a2 n2 c2 a3 n3 c3 a4 n4 c4 a5 n5 c5 exX3) : Calls Try.prog 11 #[.agg (siC a0 n0 c0 a1 n1 c1 a2 n2 c2 a3 n3 c3 a4 n4 c4 a5 n5 c5 50).toArray] w fun e w' => ∃ g o c g' o' d' B d, e = .returned (.tuple #[.slice (some ⟨g, o, none⟩) 1 c, .int .i64 0]) ∧ At w' g o [.int .i64 2, .slice (some ⟨g', o', none⟩) 1 d', .string (strB []), .int .i64 0, .slice B 0 d] ∧ w'.cell? ⟨g', o', none⟩ = some (.string (strB (wdC 83))) ∧ LS rStp 5 80 w' (some ⟨g, o, none⟩) 1 c [exPr] ∧ Below w.heap.size w w' := by
 refine (plan_any a0 n0 c0 a1 n1 c1 a2 n2 c2 a3 n3 c3 a4 n4 c4 a5 n5 c5 exX3 w h (by decide) (by decide)).mono ?_
 rintro e w' hp
 unfold TStp at hp
 rw [ex_si3, ex_p3, if_pos rfl] at hp
 obtain ⟨A, c, rfl, hl, hb⟩ := hp
 obtain ⟨y, g, o, cs, hy, rfl, hat, hst⟩ := hl.at_ stay_stp (Below.refl _ _) (k := 0) (by decide)
 obtain rfl : y = exPr := by simpa using hy.symm
 obtain ⟨B, n, d, B1, n1', d1, rfl, l0, l1, _⟩ := hst
 obtain rfl : n = 1 := l0.1.symm
 obtain rfl : n1' = 0 := l1.1.symm
 obtain ⟨s, g', o', hs, rfl, p1⟩ := l0.str_at (Below.refl _ _) (k := 0) (by decide)
 obtain rfl : s = wdC 83 := by simpa [exPr] using hs.symm
 exact ⟨g, o, c, g', o', d, B1, d1, rfl, (by rw [Nat.zero_mul, Nat.add_zero] at hat; exact hat), by simpa using p1, hl, hb⟩
theorem plan_ex4 : Calls Try.prog 11 #[.agg (siC none 0 0 none 0 0 none 0 0 none 0 0 none 0 0 none 0 0 101).toArray] w fun e w' => e = .returned (.tuple #[.slice none 0 0, .int .i64 1]) ∧ Below w.heap.size w w' := by
 refine (plan_any _ _ _ _ _ _ _ _ _ _ _ _ _ _ _ _ _ _ exX4 w ⟨LS.nil, LS.nil, LS.nil, LS.nil, LS.nil, LS.nil, rfl⟩ (by decide) (by decide)).mono ?_
 rintro e w' hp
 unfold TStp at hp
 rw [ex_si4, if_neg (by decide)] at hp
 exact hp
theorem after_ex {cs : List Value} {gu gr : Nat} (h : SiOk w a0 n0 c0 a1 n1 c1 a2 n2 c2 a3 n3 c3 a4 n4 c4 a5 n5 c5 exX1) (hs : rStp w cs exRw) (hr : BL w gr 73 (rfL rfA)) (hu : BL w gu 61 (stpC 85 gr 1)) : Calls Try.prog 18 #[.agg (siC a0 n0 c0 a1 n1 c1 a2 n2 c2 a3 n3 c3 a4 n4 c4 a5 n5 c5 50).toArray, .agg cs.toArray, .slice (some ⟨gu, 0, none⟩) 1 1] w (AfterR exX2 0 w) :=
 after_rw a0 n0 c0 a1 n1 c1 a2 n2 c2 a3 n3 c3 a4 n4 c4 a5 n5 c5 exX1 w h (by decide) ex_si1 exRw cs hs _ 1 1 [spU] (ex_mk hr hu) (by decide) rfl ex_ref
theorem safe_ex {A : Option Addr} {c : Nat} (h : SiOk w a0 n0 c0 a1 n1 c1 a2 n2 c2 a3 n3 c3 a4 n4 c4 a5 n5 c5 exX3) (hl : LS rStp 5 80 w A 1 c [exPr]) : Calls Try.prog 24 #[.agg (siC a0 n0 c0 a1 n1 c1 a2 n2 c2 a3 n3 c3 a4 n4 c4 a5 n5 c5 50).toArray, .slice A 1 c] w fun e w' => e = .returned (.tuple #[.bool true, .int .i64 0]) ∧ Below w.heap.size w w' := by
 refine (safe_any a0 n0 c0 a1 n1 c1 a2 n2 c2 a3 n3 c3 a4 n4 c4 a5 n5 c5 exX3 w h (by decide) A 1 c [exPr] hl).mono ?_
 rintro e w' ⟨rfl, hb⟩
 rw [safeV, ex_si3, ex_safe]
 exact ⟨rfl, hb⟩
end
end Go.Proofs.Ytboglaokdgnpaaa
