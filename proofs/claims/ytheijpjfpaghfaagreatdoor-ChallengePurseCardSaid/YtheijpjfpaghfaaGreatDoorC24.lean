/- Several texts in one: Ec, Ed. -/
import Derived.Test.YtheijpjfpaghfaaGreatDoorC23
import Derived.Defers
/- wire.Reader: what the reading of a value leaves. -/
namespace Go.Proofs.YtheijpjfpaghfaaGreatDoor
open Go Go.RowKit Gf Sha

section
variable {P : Program} {o : Oper} {a : Act} {Q : Exit → Act → World → Prop} {K' : Act → World → Prop}
/-- A store of one cell, at an operation of a region that draws. -/
theorem wp_store1 (w : World) (t : TypeId) (x y : Operand) (hop : o.op = .store t x y) (hs : (sizeOf t).run P w = .ok 1 w) (g p : Nat) (te : TypeId) (l : List Value) (u : Value) (hx : a.eval x = .pointer (some ⟨g, p, none⟩)) (hy : a.eval y = u)
  (hb : BL w g te l) (hu : u.cells = #[u]) (h1 : u.oneCell' = true) (hp : p < l.length)
  (h : ∀ w', BL w' g te (l.set p u) → Kp (· = g) w w' → w'.heap.size = w.heap.size → K' (a.put o.dst undef) w') : o.wp P a w K' Q := by
 obtain ⟨w', hr, hb', hk, hz⟩ := run_storeCells (P := P) [u] (by simpa using h1) p 1 0 l w rfl hb (by simp; omega)
 have e : l.take (p + 0) ++ [u].drop 0 ++ l.drop (p + [u].length) = l.set p u := by
  rw [List.set_eq_take_append_cons_drop, if_pos hp]
  simp
 rw [e] at hb'
 rw [List.drop_zero] at hr
 unfold Oper.wp execOp
 simp only [hop, hx, hy]
 simp [Instr.storeAt, Instr.sureAddr, storeVar, Sem.run_bind, hs, hu, hr, Result.andThen]
 exact h w' hb' hk hz
end
/-- Where a reader stands. -/
structure Rd where
 off : Nat
 last : Int
 err : Int
def RdS (w : World) (g : Nat) (A : Option Addr) (n c : Nat) (b : List UInt8) (s : Rd) : Prop := RdAt w g A n c b (s.off : Int) s.last s.err ∧ s.off ≤ n
theorem RdS.kept {w w' : World} {g n c : Nat} {A : Option Addr} {b : List UInt8} {s : Rd} (h : RdS w g A n c b s) (hb : Below w.heap.size w w') : RdS w' g A n c b s := ⟨h.1.kept hb, h.2⟩
/-- The value that decoding hands back, its error, its length. -/
def vO {α : Type} (z : α) : Except Int (α × Nat) → α
 | .ok x => x.1
 | .error _ => z
def eO {α : Type} : Except Int (α × Nat) → Int
 | .ok _ => 0
 | .error e => e
/-- A value is read. -/
def rdV {α : Type} (z : α) (d : List UInt8 → Except Int (α × Nat)) (b : List UInt8) (s : Rd) : α × Rd :=
 if s.err = 0 then (match d (b.drop s.off) with | .ok x => (x.1, ⟨s.off + x.2, s.off, 0⟩) | .error e => (z, ⟨s.off, s.off, e⟩)) else (z, s)
def uD (r : List UInt8) : Except Int (Nat × Nat) := match num r with | some x => .ok x | none => .error 3
def cD (most : Nat) (r : List UInt8) : Except Int (Nat × Nat) := match num r with | some x => if x.1 ≤ most then .ok x else .error 2 | none => .error 3
def sD (r : List UInt8) : Except Int (List UInt8 × Nat) := if 32 ≤ r.length then .ok (r.take 32, 32) else .error 3
/-- What a decoding function hands back. -/
def DecR {α : Type} (enc : α → Value) (z : α) (d : List UInt8 → Except Int (α × Nat)) (g : Nat) (A : Option Addr) (n c : Nat) (b : List UInt8) (off : Nat) (last : Int) (w : World) (e : Ending) (w' : World) : Prop :=
 e = .returned (.tuple #[enc (vO z (d (b.drop off))), .int .i64 (eO (d (b.drop off)))]) ∧ ∃ k, (∀ x, d (b.drop off) = .ok x → k = x.2) ∧ off + k ≤ n ∧ RdAt w' g A n c b ((off + k : Nat) : Int) last 0 ∧ Kp (· = g) w w'
theorem numR_of {r : List UInt8} {v : Nat} {err : Int} {k : Nat} (h : numR r v err k) : v = vO 0 (uD r) ∧ err = eO (uD r) ∧ ∀ x, uD r = .ok x → k = x.2 := by
 rcases h with ⟨rfl, h⟩ | ⟨rfl, rfl, h⟩
 ·
  rw [uD, h]; exact ⟨rfl, rfl, fun x e => by cases e; rfl⟩
 ·
  rw [uD, h]; exact ⟨rfl, rfl, fun x e => by cases e⟩
theorem number_dec (w : World) (g n c : Nat) (A : Option Addr) (b : List UInt8) (off : Nat) (last : Int) (h : RdAt w g A n c b off last 0) (ho : off ≤ n) :
  Calls Tryz.prog 90 #[.pointer (some ⟨g, 0, none⟩)] w (DecR (fun v : Nat => .int .u64 (v : Int)) 0 uD g A n c b off last w) :=
 (number_any w g n c A b off last h ho).mono fun e w' ⟨v, err, k, he, hn, h1, h2, h3⟩ => by
  obtain ⟨rfl, rfl, h4⟩ := numR_of hn
  exact ⟨he, k, h4, h1, h2, h3⟩

set_option maxHeartbeats 1000000 in
theorem rvu_clo (w : World) (g n c bs br bv : Nat) (A : Option Addr) (b : List UInt8) (off last start err : Int) (v : Value) (u : FrameMode) (h : RdAt w g A n c b off last err)
  (hs : w.cell? ⟨bs, 0, none⟩ = some (.int .i64 start)) (hr : w.cell? ⟨br, 0, none⟩ = some (.pointer (some ⟨g, 0, none⟩))) (hv : BL w bv 98 [v]) (h1 : bs ≠ g) (h2 : br ≠ g) (h3 : bv ≠ g) (h4 : FarB A n (· = bv)) :
  CallsD Tryz.prog 141 #[.pointer (some ⟨bs, 0, none⟩), .pointer (some ⟨br, 0, none⟩), .pointer (some ⟨bv, 0, none⟩)] u w fun e u' w' => u' = u ∧ (e = .returned (.tuple #[]) ∧ RdAt w' g A n c b (if err = 0 then off else start) start err ∧ BL w' bv 98 [if err = 0 then v else .int .u64 0] ∧ Kp (fun k => k = g ∨ k = bv) w w') := by
 have H := Lib.hid h
 have HV := Lib.hid hv
 have HF := Lib.hid h4
 have HN3 := Lib.hid h3
 clear h hv h4 h3
 by_cases h0 : err = 0
 ·
  subst h0
  rw [if_pos rfl, if_pos rfl]
  go_enter_d Tryz.func141, Tryz.ntmps141
  go_wp2_with (first
   | ((with_reducible show OpN); refine wpList_store1 _ rfl 3 (.tmp 7) (.tmp 5) rfl (sz1 _ (by kernel_rfl) _) g 2 _ _ (.int .i64 start) rfl rfl H.out.1 rfl rfl (by simp) ?_; intro w1 y1 y2 y3; have HR1 := Lib.hid (H.out.set (off' := off) (last' := start) (err' := 0) y2 y1); have HK1 := Lib.hid y2; have q2 := y1.get (j := 3) rfl; have q3 := y2.cell hr h2; have q4 := y2.cell hs h1; clear y1 y2 y3))
  go_end0
  exact ⟨rfl, HR1.out, HK1.out.bl HV.out HN3.out, HK1.out.mono (fun k _ e => .inl e)⟩
 ·
  rw [if_neg h0, if_neg h0]
  have f0 : (err != 0) = true := by rw [bne_iff_ne]; exact h0
  clear h0
  go_enter_d Tryz.func141, Tryz.ntmps141
  go_wp2_with (first
   | ((with_reducible show OpN); refine wpList_store1 _ rfl 3 (.tmp 7) (.tmp 5) rfl (sz1 _ (by kernel_rfl) _) g 2 _ _ (.int .i64 start) rfl rfl H.out.1 rfl rfl (by simp) ?_; intro w1 y1 y2 y3; have HR1 := Lib.hid (H.out.set (off' := off) (last' := start) (err' := err) y2 y1); have HK1 := Lib.hid y2; have q2 := y1.get (j := 3) rfl; have q3 := y2.cell hr h2; have q4 := y2.cell hs h1; clear y1 y2 y3)
   | ((with_reducible show OpN); refine wpList_store1 _ rfl 3 (.tmp 17) (.tmp 14) rfl (sz1 _ (by kernel_rfl) _) g 1 _ _ (.int .i64 start) rfl rfl HR1.out.1 rfl rfl (by simp) ?_; intro w2 y1 y2 y3; have HR2 := Lib.hid (HR1.out.set (off' := start) (last' := start) (err' := err) y2 y1); have HK2 := Lib.hid (HK1.out.trans y2); clear y1 y2 y3)
   | ((with_reducible show OpN); refine wpList_store1 _ rfl 98 (.tmp 2) (.tmp 15) rfl (sz1 _ (by kernel_rfl) _) bv 0 _ _ (.int .u64 0) rfl rfl (HK2.out.bl HV.out HN3.out) rfl rfl (by simp) ?_; intro w3 y1 y2 y3; have HV3 := Lib.hid y1; have HK3 := Lib.hid y2; clear y1 y2 y3))
  go_end0
  exact ⟨rfl, ⟨HK3.out.bl HR2.out.1 (fun e => HN3.out e.symm), HR2.out.2.1.kpf HK3.out HF.out, HR2.out.2.2⟩, HV3.out, (HK2.out.mono (S' := fun k => k = g ∨ k = bv) (fun k _ e => .inl e)).trans (HK3.out.mono (fun k _ e => .inr e))⟩
set_option maxHeartbeats 1000000 in
theorem rvi_clo (w : World) (g n c bs br bv : Nat) (A : Option Addr) (b : List UInt8) (off last start err : Int) (v : Value) (u : FrameMode) (h : RdAt w g A n c b off last err)
  (hs : w.cell? ⟨bs, 0, none⟩ = some (.int .i64 start)) (hr : w.cell? ⟨br, 0, none⟩ = some (.pointer (some ⟨g, 0, none⟩))) (hv : BL w bv 3 [v]) (h1 : bs ≠ g) (h2 : br ≠ g) (h3 : bv ≠ g) (h4 : FarB A n (· = bv)) :
  CallsD Tryz.prog 89 #[.pointer (some ⟨bs, 0, none⟩), .pointer (some ⟨br, 0, none⟩), .pointer (some ⟨bv, 0, none⟩)] u w fun e u' w' => u' = u ∧ (e = .returned (.tuple #[]) ∧ RdAt w' g A n c b (if err = 0 then off else start) start err ∧ BL w' bv 3 [if err = 0 then v else .int .i64 0] ∧ Kp (fun k => k = g ∨ k = bv) w w') := by
 have H := Lib.hid h
 have HV := Lib.hid hv
 have HF := Lib.hid h4
 have HN3 := Lib.hid h3
 clear h hv h4 h3
 by_cases h0 : err = 0
 ·
  subst h0
  rw [if_pos rfl, if_pos rfl]
  go_enter_d Tryz.func89, Tryz.ntmps89
  go_wp2_with (first
   | ((with_reducible show OpN); refine wpList_store1 _ rfl 3 (.tmp 7) (.tmp 5) rfl (sz1 _ (by kernel_rfl) _) g 2 _ _ (.int .i64 start) rfl rfl H.out.1 rfl rfl (by simp) ?_; intro w1 y1 y2 y3; have HR1 := Lib.hid (H.out.set (off' := off) (last' := start) (err' := 0) y2 y1); have HK1 := Lib.hid y2; have q2 := y1.get (j := 3) rfl; have q3 := y2.cell hr h2; have q4 := y2.cell hs h1; clear y1 y2 y3))
  go_end0
  exact ⟨rfl, HR1.out, HK1.out.bl HV.out HN3.out, HK1.out.mono (fun k _ e => .inl e)⟩
 ·
  rw [if_neg h0, if_neg h0]
  have f0 : (err != 0) = true := by rw [bne_iff_ne]; exact h0
  clear h0
  go_enter_d Tryz.func89, Tryz.ntmps89
  go_wp2_with (first
   | ((with_reducible show OpN); refine wpList_store1 _ rfl 3 (.tmp 7) (.tmp 5) rfl (sz1 _ (by kernel_rfl) _) g 2 _ _ (.int .i64 start) rfl rfl H.out.1 rfl rfl (by simp) ?_; intro w1 y1 y2 y3; have HR1 := Lib.hid (H.out.set (off' := off) (last' := start) (err' := err) y2 y1); have HK1 := Lib.hid y2; have q2 := y1.get (j := 3) rfl; have q3 := y2.cell hr h2; have q4 := y2.cell hs h1; clear y1 y2 y3)
   | ((with_reducible show OpN); refine wpList_store1 _ rfl 3 (.tmp 17) (.tmp 14) rfl (sz1 _ (by kernel_rfl) _) g 1 _ _ (.int .i64 start) rfl rfl HR1.out.1 rfl rfl (by simp) ?_; intro w2 y1 y2 y3; have HR2 := Lib.hid (HR1.out.set (off' := start) (last' := start) (err' := err) y2 y1); have HK2 := Lib.hid (HK1.out.trans y2); clear y1 y2 y3)
   | ((with_reducible show OpN); refine wpList_store1 _ rfl 3 (.tmp 2) (.tmp 15) rfl (sz1 _ (by kernel_rfl) _) bv 0 _ _ (.int .i64 0) rfl rfl (HK2.out.bl HV.out HN3.out) rfl rfl (by simp) ?_; intro w3 y1 y2 y3; have HV3 := Lib.hid y1; have HK3 := Lib.hid y2; clear y1 y2 y3))
  go_end0
  exact ⟨rfl, ⟨HK3.out.bl HR2.out.1 (fun e => HN3.out e.symm), HR2.out.2.1.kpf HK3.out HF.out, HR2.out.2.2⟩, HV3.out, (HK2.out.mono (S' := fun k => k = g ∨ k = bv) (fun k _ e => .inl e)).trans (HK3.out.mono (fun k _ e => .inr e))⟩
set_option maxHeartbeats 1000000 in
theorem rvs_clo (w : World) (g n c bs br bv : Nat) (A : Option Addr) (b : List UInt8) (off last start err : Int) (v : Value) (u : FrameMode) (h : RdAt w g A n c b off last err)
  (hs : w.cell? ⟨bs, 0, none⟩ = some (.int .i64 start)) (hr : w.cell? ⟨br, 0, none⟩ = some (.pointer (some ⟨g, 0, none⟩))) (hv : BL w bv 9 [v]) (h1 : bs ≠ g) (h2 : br ≠ g) (h3 : bv ≠ g) (h4 : FarB A n (· = bv)) :
  CallsD Tryz.prog 116 #[.pointer (some ⟨bs, 0, none⟩), .pointer (some ⟨br, 0, none⟩), .pointer (some ⟨bv, 0, none⟩)] u w fun e u' w' => u' = u ∧ (e = .returned (.tuple #[]) ∧ RdAt w' g A n c b (if err = 0 then off else start) start err ∧ BL w' bv 9 [if err = 0 then v else .string (strB [])] ∧ Kp (fun k => k = g ∨ k = bv) w w') := by
 have H := Lib.hid h
 have HV := Lib.hid hv
 have HF := Lib.hid h4
 have HN3 := Lib.hid h3
 clear h hv h4 h3
 by_cases h0 : err = 0
 ·
  subst h0
  rw [if_pos rfl, if_pos rfl]
  go_enter_d Tryz.func116, Tryz.ntmps116
  go_wp2_with (first
   | ((with_reducible show OpN); refine wpList_store1 _ rfl 3 (.tmp 7) (.tmp 5) rfl (sz1 _ (by kernel_rfl) _) g 2 _ _ (.int .i64 start) rfl rfl H.out.1 rfl rfl (by simp) ?_; intro w1 y1 y2 y3; have HR1 := Lib.hid (H.out.set (off' := off) (last' := start) (err' := 0) y2 y1); have HK1 := Lib.hid y2; have q2 := y1.get (j := 3) rfl; have q3 := y2.cell hr h2; have q4 := y2.cell hs h1; clear y1 y2 y3))
  go_end0
  exact ⟨rfl, HR1.out, HK1.out.bl HV.out HN3.out, HK1.out.mono (fun k _ e => .inl e)⟩
 ·
  rw [if_neg h0, if_neg h0]
  have f0 : (err != 0) = true := by rw [bne_iff_ne]; exact h0
  clear h0
  go_enter_d Tryz.func116, Tryz.ntmps116
  go_wp2_with (first
   | ((with_reducible show OpN); refine wpList_store1 _ rfl 3 (.tmp 7) (.tmp 5) rfl (sz1 _ (by kernel_rfl) _) g 2 _ _ (.int .i64 start) rfl rfl H.out.1 rfl rfl (by simp) ?_; intro w1 y1 y2 y3; have HR1 := Lib.hid (H.out.set (off' := off) (last' := start) (err' := err) y2 y1); have HK1 := Lib.hid y2; have q2 := y1.get (j := 3) rfl; have q3 := y2.cell hr h2; have q4 := y2.cell hs h1; clear y1 y2 y3)
   | ((with_reducible show OpN); refine wpList_store1 _ rfl 3 (.tmp 17) (.tmp 14) rfl (sz1 _ (by kernel_rfl) _) g 1 _ _ (.int .i64 start) rfl rfl HR1.out.1 rfl rfl (by simp) ?_; intro w2 y1 y2 y3; have HR2 := Lib.hid (HR1.out.set (off' := start) (last' := start) (err' := err) y2 y1); have HK2 := Lib.hid (HK1.out.trans y2); clear y1 y2 y3)
   | ((with_reducible show OpN); refine wpList_store1 _ rfl 9 (.tmp 2) (.tmp 15) rfl (sz1 _ (by kernel_rfl) _) bv 0 _ _ (.string (strB [])) rfl rfl (HK2.out.bl HV.out HN3.out) rfl rfl (by simp) ?_; intro w3 y1 y2 y3; have HV3 := Lib.hid y1; have HK3 := Lib.hid y2; clear y1 y2 y3))
  go_end0
  exact ⟨rfl, ⟨HK3.out.bl HR2.out.1 (fun e => HN3.out e.symm), HR2.out.2.1.kpf HK3.out HF.out, HR2.out.2.2⟩, HV3.out, (HK2.out.mono (S' := fun k => k = g ∨ k = bv) (fun k _ e => .inl e)).trans (HK3.out.mono (fun k _ e => .inr e))⟩
end Go.Proofs.YtheijpjfpaghfaaGreatDoor
/- wire.Reader: limited, take; what Count and Sum decode by. -/
namespace Go.Proofs.YtheijpjfpaghfaaGreatDoor
open Go Go.RowKit Gf Sha

theorem cD_none {m : Nat} {r : List UInt8} (h : num r = none) : cD m r = .error 3 := by rw [cD, h]
theorem cD_big {m : Nat} {r : List UInt8} {x : Nat × Nat} (h : num r = some x) (h1 : ¬ x.1 ≤ m) : cD m r = .error 2 := by rw [cD, h]; exact if_neg h1
theorem cD_ok {m : Nat} {r : List UInt8} {x : Nat × Nat} (h : num r = some x) (h1 : x.1 ≤ m) : cD m r = .ok x := by rw [cD, h]; exact if_pos h1
def encI (v : Nat) : Value := .int .i64 (v : Int)
def encU (v : Nat) : Value := .int .u64 (v : Int)
def encS (l : List UInt8) : Value := .string (strB l)
set_option maxHeartbeats 1000000 in
theorem limited_any (m : Nat) (hm : m ≤ 1099511627776) (w : World) (g n c : Nat) (A : Option Addr) (b : List UInt8) (off : Nat) (last : Int) (h : RdAt w g A n c b off last 0) (ho : off ≤ n) :
  Calls Tryz.prog 67 #[.pointer (some ⟨g, 0, none⟩), .int .i64 (m : Int)] w (DecR encI 0 (cD m) g A n c b off last w) := by
 have H := Lib.hid h
 have HO := Lib.hid ho
 have HM := Lib.hid hm
 have HDEC := Lib.hid (number_any w g n c A b off last h ho)
 clear h ho hm
 have f1 : decide ((m : Int) < 0) = false := decide_eq_false (by omega)
 have f2 : IntKind.u64.wrap (m : Int) = (m : Int) := by have := HM.out; show (m : Int) % 18446744073709551616 = _; omega
 go_enter Tryz.func67, Tryz.ntmps67
 go_wp2_with (first
  | (go_at_call 90; refine HDEC.out.mono ?_; rintro e w1 ⟨v, err, k, rfl, hn, h1, h2, h3⟩; have HN := Lib.hid hn; have HK := Lib.hid h1; have HR := Lib.hid h2; have HB := Lib.hid h3; clear hn h1 h2 h3))
 ·
  go_ret2
  rcases HN.out with ⟨rfl, _⟩ | ⟨rfl, rfl, hn⟩
  ·
   exact absurd (show ((0 : Int) != 0) = true by assumption) (by decide)
  ·
   rw [DecR, cD_none hn]
   exact ⟨rfl, k, fun x e => (by cases e), HK.out, HR.out, HB.out⟩
 ·
  go_ret2
  rcases HN.out with ⟨rfl, hn⟩ | ⟨rfl, rfl, hn⟩
  ·
   rw [DecR, cD_big hn (show ¬ v ≤ m by omega)]
   exact ⟨rfl, k, fun x e => (by cases e), HK.out, HR.out, HB.out⟩
  ·
   exact absurd (show ((3 : Int) != 0) = false by assumption) (by decide)
 ·
  go_ret2
  rcases HN.out with ⟨rfl, hn⟩ | ⟨rfl, rfl, hn⟩
  ·
   rw [DecR, cD_ok hn (show v ≤ m by omega)]
   refine ⟨?_, k, fun x e => (by cases e; rfl), HK.out, HR.out, HB.out⟩
   rw [IntWalk.wrap64_in _ (by have := HM.out; omega)]
   rfl
  ·
   exact absurd (show ((3 : Int) != 0) = false by assumption) (by decide)
set_option maxHeartbeats 1000000 in
/-- The closure of Count. -/
theorem count1_any (m : Nat) (hm : m ≤ 1099511627776) (w : World) (g n c p q : Nat) (A : Option Addr) (b : List UInt8) (off : Nat) (last : Int) (h : RdAt w g A n c b off last 0) (ho : off ≤ n)
  (hp : w.cell? ⟨p, 0, none⟩ = some (.pointer (some ⟨g, 0, none⟩))) (hq : w.cell? ⟨q, 0, none⟩ = some (.int .i64 (m : Int))) :
  Calls Tryz.prog 66 #[.pointer (some ⟨p, 0, none⟩), .pointer (some ⟨q, 0, none⟩)] w (DecR encI 0 (cD m) g A n c b off last w) := by
 have HDEC := Lib.hid (limited_any m hm w g n c A b off last h ho)
 clear h ho hm
 go_enter Tryz.func66, Tryz.ntmps66
 go_wp2_with (first
  | (go_at_call 67; refine HDEC.out.mono ?_; rintro e w1 ⟨rfl, h1⟩; have HR := Lib.hid h1; clear h1))
 go_ret2
 exact ⟨rfl, HR.out⟩
theorem sD_ok {r : List UInt8} (h : 32 ≤ r.length) : sD r = .ok (r.take 32, 32) := if_pos h
theorem sD_bad {r : List UInt8} (h : ¬ 32 ≤ r.length) : sD r = .error 3 := if_neg h
set_option maxHeartbeats 1000000 in
theorem take_no (w : World) (g n c : Nat) (A : Option Addr) (b : List UInt8) (off : Nat) (last : Int) (h : RdAt w g A n c b off last 0) (ho : off ≤ n) (hlt : ¬ off + 32 ≤ n) :
  Calls Tryz.prog 93 #[.pointer (some ⟨g, 0, none⟩), .int .i64 32] w fun e w' => e = .returned (.tuple #[.slice none 0 0, .int .i64 3]) ∧ RdAt w' g A n c b off last 0 ∧ Kp (· = g) w w' := by
 have hlim : n ≤ 140737488355328 := by have := h.2.1.2.2.1; unfold lim at this; omega
 have H := Lib.hid h
 clear h
 have f0 : IntKind.i64.wrap ((n : Int) - (off : Int)) = (n : Int) - (off : Int) := IntWalk.i64_in _ (by omega)
 have f1 : decide ((n : Int) - (off : Int) < 32) = true := decide_eq_true (by omega)
 go_enter Tryz.func93, Tryz.ntmps93
 go_wp2_with fail
 refine Text.wp_region_text (fun w' => w'.cell? ⟨g, 0, none⟩ = some (.slice A n c) ∧ w'.cell? ⟨g, 1, none⟩ = some (.int .i64 (off : Int))) [(0, 4), (1, 4), (2, 4), (3, 4), (6, 4), (7, 4), (8, 4), (4, 0), (5, 4), (9, 0), (10, 4), (11, 4)] (by kernel_rfl) (by kernel_rfl) (fun _ _ _ _ _ h => h) (⟨H.out.1.get (j := 0) rfl, H.out.1.get (j := 1) rfl⟩) ?_
 iterate 7 (refine Text.purek rfl rfl (fun K hK => ⟨_, fun w' => by go_simp <;> rfl, ?_⟩); go_simp; refine hK _ ?_; clear hK K)
 (refine Text.heldk rfl rfl (fun K hK => ⟨_, fun w' hw' => by go_simp <;> rfl, ?_⟩); go_simp; refine hK _ ?_; clear hK K)
 (refine Text.purek rfl rfl (fun K hK => ⟨_, fun w' => by go_simp <;> rfl, ?_⟩); go_simp; refine hK _ ?_; clear hK K)
 (refine Text.heldk rfl rfl (fun K hK => ⟨_, fun w' hw' => by go_simp <;> rfl, ?_⟩); go_simp; refine hK _ ?_; clear hK K)
 iterate 2 (refine Text.purek rfl rfl (fun K hK => ⟨_, fun w' => by go_simp <;> rfl, ?_⟩); go_simp; refine hK _ ?_; clear hK K)
 refine Text.done ?_
 go_wp2_with fail
 go_ret2
 exact ⟨rfl, H.out.drew, (Kp.refl _ _).drew⟩
set_option maxHeartbeats 1000000 in
theorem take_yes (w : World) (g n c : Nat) (A : Option Addr) (b : List UInt8) (off : Nat) (last : Int) (h : RdAt w g A n c b off last 0) (hlt : off + 32 ≤ n) :
  Calls Tryz.prog 93 #[.pointer (some ⟨g, 0, none⟩), .int .i64 32] w fun e w' => ∃ A2 c2, e = .returned (.tuple #[.slice A2 32 c2, .int .i64 0]) ∧ BS w' A2 32 c2 ((b.drop off).take 32) ∧ RdAt w' g A n c b ((off + 32 : Nat) : Int) last 0 ∧ Kp (· = g) w w' := by
 have hlim : n ≤ 140737488355328 := by have := h.2.1.2.2.1; unfold lim at this; omega
 have hc : n ≤ c := h.2.1.2.1
 have H := Lib.hid h
 clear h
 have f0 : IntKind.i64.wrap ((n : Int) - (off : Int)) = (n : Int) - (off : Int) := IntWalk.i64_in _ (by omega)
 have f1 : decide ((n : Int) - (off : Int) < 32) = false := decide_eq_false (by omega)
 have f5 : 0 ≤ (off : Int) + 32 ∧ (off : Int) + 32 ≤ (c : Int) := ⟨by omega, by omega⟩
 have f6 : off ≤ ((off : Int) + 32).toNat := by omega
 have f7 : ((off : Int) + 32).toNat - off = 32 := by omega
 have f4 : IntKind.i64.wrap ((off : Int) + 32) = (off : Int) + 32 := IntWalk.i64_in _ (by omega)
 go_enter Tryz.func93, Tryz.ntmps93
 go_wp2_with fail
 refine Text.wp_region_text (fun w' => w'.cell? ⟨g, 0, none⟩ = some (.slice A n c) ∧ w'.cell? ⟨g, 1, none⟩ = some (.int .i64 (off : Int))) [(0, 4), (1, 4), (2, 4), (3, 4), (6, 4), (7, 4), (8, 4), (4, 0), (5, 4), (9, 0), (10, 4), (11, 4)] (by kernel_rfl) (by kernel_rfl) (fun _ _ _ _ _ h => h) (⟨H.out.1.get (j := 0) rfl, H.out.1.get (j := 1) rfl⟩) ?_
 iterate 7 (refine Text.purek rfl rfl (fun K hK => ⟨_, fun w' => by go_simp <;> rfl, ?_⟩); go_simp; refine hK _ ?_; clear hK K)
 (refine Text.heldk rfl rfl (fun K hK => ⟨_, fun w' hw' => by go_simp <;> rfl, ?_⟩); go_simp; refine hK _ ?_; clear hK K)
 (refine Text.purek rfl rfl (fun K hK => ⟨_, fun w' => by go_simp <;> rfl, ?_⟩); go_simp; refine hK _ ?_; clear hK K)
 (refine Text.heldk rfl rfl (fun K hK => ⟨_, fun w' hw' => by go_simp <;> rfl, ?_⟩); go_simp; refine hK _ ?_; clear hK K)
 iterate 2 (refine Text.purek rfl rfl (fun K hK => ⟨_, fun w' => by go_simp <;> rfl, ?_⟩); go_simp; refine hK _ ?_; clear hK K)
 refine Text.done ?_
 go_wp2_with fail
 refine Text.wp_region_text (fun w' => w'.cell? ⟨g, 0, none⟩ = some (.slice A n c) ∧ w'.cell? ⟨g, 1, none⟩ = some (.int .i64 (off : Int))) [(0, 4), (1, 4), (2, 4), (4, 4), (5, 4), (6, 4), (8, 4), (9, 4), (10, 4), (12, 4), (3, 0), (7, 0), (11, 0), (13, 4), (14, 4), (15, 4)] (by kernel_rfl) (by kernel_rfl) (fun _ _ _ _ _ h => h) (⟨H.out.1.get (j := 0) rfl, H.out.1.get (j := 1) rfl⟩) ?_
 iterate 10 (refine Text.purek rfl rfl (fun K hK => ⟨_, fun w' => by go_simp <;> rfl, ?_⟩); go_simp; refine hK _ ?_; clear hK K)
 iterate 3 (refine Text.heldk rfl rfl (fun K hK => ⟨_, fun w' hw' => by go_simp <;> rfl, ?_⟩); go_simp; refine hK _ ?_; clear hK K)
 iterate 3 (refine Text.purek rfl rfl (fun K hK => ⟨_, fun w' => by go_simp <;> rfl, ?_⟩); go_simp; refine hK _ ?_; clear hK K)
 refine Text.done ?_
 have q1 : w.drew.drew.cell? ⟨g, 1, none⟩ = some (.int .i64 (off : Int)) := H.out.1.get (j := 1) rfl
 go_wp2_with (first
  | ((with_reducible show OpN); refine wpList_store1 _ rfl 3 (.tmp 41) (.tmp 39) rfl (sz1 _ (by kernel_rfl) _) g 1 _ _ (.int .i64 ((off + 32 : Nat) : Int)) rfl (by go_simp) H.out.1 rfl rfl (by simp) ?_; intro w3 y1 y2 y3; have HR3 := Lib.hid (H.out.drew.drew.set (off' := ((off + 32 : Nat) : Int)) (last' := last) (err' := 0) y2 y1); have HK3 := Lib.hid ((Kp.drew (Kp.drew (Kp.refl _ w))).trans y2); clear y1 y2 y3))
 go_ret2
 have h9 := (H.out.2.1.cut (show off ≤ n by omega)).pre (show 32 ≤ n - off by omega)
 rw [cutA, if_neg (show ¬ c = off by omega)] at h9
 have h8 := (FarB.cut H.out.2.1 H.out.2.2 (show off ≤ n by omega)).pre (show 32 ≤ n - off by omega)
 rw [cutA, if_neg (show ¬ c = off by omega)] at h8
 exact ⟨_, _, rfl, h9.kpf HK3.out h8, HR3.out, HK3.out⟩
set_option maxHeartbeats 1000000 in
/-- The closure of Sum. -/
theorem sum1_any (w : World) (g n c p : Nat) (A : Option Addr) (b : List UInt8) (off : Nat) (last : Int) (h : RdAt w g A n c b off last 0) (ho : off ≤ n)
  (hp : w.cell? ⟨p, 0, none⟩ = some (.pointer (some ⟨g, 0, none⟩))) :
  Calls Tryz.prog 92 #[.pointer (some ⟨p, 0, none⟩)] w (DecR encS [] sD g A n c b off last w) := by
 have hl : b.length = n := h.2.1.1
 have H := Lib.hid h
 clear h
 by_cases hlt : off + 32 ≤ n
 ·
  have HD : Hid (sD (b.drop off) = .ok ((b.drop off).take 32, 32)) := Lib.hid (sD_ok (by rw [List.length_drop]; omega))
  go_enter Tryz.func92, Tryz.ntmps92
  go_wp2_with (first
   | (go_at_call 93; refine (take_yes w g n c A b off last H.out hlt).mono ?_; rintro e w1 ⟨A2, c2, rfl, h1, h2, h3⟩; have HS := Lib.hid h1; have hcs := conv_str HS.out; have HR := Lib.hid h2; have HB := Lib.hid h3; clear h1 h2 h3))
  go_ret2
  rw [DecR, HD.out]
  exact ⟨rfl, 32, fun x e => (by cases e; rfl), hlt, HR.out, HB.out⟩
 ·
  have HD : Hid (sD (b.drop off) = .error 3) := Lib.hid (sD_bad (by rw [List.length_drop]; omega))
  go_enter Tryz.func92, Tryz.ntmps92
  go_wp2_with (first
   | (go_at_call 93; refine (take_no w g n c A b off last H.out ho hlt).mono ?_; rintro e w1 ⟨rfl, h2, h3⟩; have HS := Lib.hid (BS.nil (w := w1)); have hcs := conv_str HS.out; have HR := Lib.hid h2; have HB := Lib.hid h3; clear h2 h3))
  go_ret2
  rw [DecR, HD.out]
  exact ⟨rfl, 0, fun x e => (by cases e), by omega, HR.out, HB.out⟩
end Go.Proofs.YtheijpjfpaghfaaGreatDoor
