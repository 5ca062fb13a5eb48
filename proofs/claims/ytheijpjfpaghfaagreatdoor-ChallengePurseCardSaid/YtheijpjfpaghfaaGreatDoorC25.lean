/- Several texts in one: Ee. -/
import Derived.Test.YtheijpjfpaghfaaGreatDoorC24
/- wire.Reader: Uint, Count, Sum, Fail, End. -/
namespace Go.Proofs.YtheijpjfpaghfaaGreatDoor
open Go Go.RowKit Gf Sha

theorem rdV_err {α : Type} {z : α} {d : List UInt8 → Except Int (α × Nat)} {b : List UInt8} {s : Rd} (h : ¬ s.err = 0) : rdV z d b s = (z, s) := if_neg h
theorem rdV_ok {α : Type} {z : α} {d : List UInt8 → Except Int (α × Nat)} {b : List UInt8} {off : Nat} {last : Int} {x : α × Nat} (h : d (b.drop off) = .ok x) : rdV z d b ⟨off, last, 0⟩ = (x.1, ⟨off + x.2, off, 0⟩) := by
 show (if (0 : Int) = 0 then _ else _) = _
 rw [if_pos rfl]
 show (match d (b.drop off) with | .ok x => _ | .error e => _) = _
 rw [h]
theorem rdV_bad {α : Type} {z : α} {d : List UInt8 → Except Int (α × Nat)} {b : List UInt8} {off : Nat} {last e : Int} (h : d (b.drop off) = .error e) : rdV z d b ⟨off, last, 0⟩ = (z, ⟨off, off, e⟩) := by
 show (if (0 : Int) = 0 then _ else _) = _
 rw [if_pos rfl]
 show (match d (b.drop off) with | .ok x => _ | .error e => _) = _
 rw [h]
theorem uD_err {r : List UInt8} {e : Int} (h : uD r = .error e) : e ≠ 0 := by
 unfold uD at h
 split at h <;> cases h
 decide
theorem cD_err {m : Nat} {r : List UInt8} {e : Int} (h : cD m r = .error e) : e ≠ 0 := by
 unfold cD at h
 split at h
 ·
  split at h <;> cases h
  decide
 ·
  cases h; decide
theorem sD_err {r : List UInt8} {e : Int} (h : sD r = .error e) : e ≠ 0 := by
 unfold sD at h
 split at h <;> cases h
 decide
theorem results_one {fn : Func} {p : Tmp} {t : TypeId} (hf : fn.results = #[.cell p t]) {P : Program} (ha : ∀ w : World, (isAgg t).run P w = .ok false w) {tmps : Array Value} {g : Nat} {v : Value} {w : World} (hp : tmps.getD p undef = .pointer (some ⟨g, 0, none⟩)) (hm : w.cell? ⟨g, 0, none⟩ = some v) :
  (results fn tmps).run P w = .ok v w := by
 have hp' : tmps[p]?.getD undef = .pointer (some ⟨g, 0, none⟩) := by simpa using hp
 simp [results, hf, hp', asAddr, loadVar, Sem.run_bind, ha, go_sem, hm]
namespace Text
/-- As Q, but never for a panic. -/
def NP (Q : Exit → Act → World → Prop) : Exit → Act → World → Prop := fun x a w => (match x with | .panic _ => False | _ => True) ∧ Q x a w
/-- A region that draws, in a function that defers: no operation panics. -/
theorem wp_region_textN {P : Program} {ops : Array Oper} {Q : Exit → Act → World → Prop} {id : Nat} {a : Act} {w : World} (S : World → Prop) (L : List (Nat × Nat)) (hm : P.follows .mixedOrders = true) (hB : textB ops L = true)
  (hS : S w.drew) (h : wpText P ops (NP Q) S L a w.drew) : (Code.region id ops true).wp P Q a w :=
 Go.wp_mono (wp_region_text S L hm hB (fun _ _ _ _ _ h => h.1.elim) hS h) (fun _ _ _ h => h.2)
end Text
set_option maxRecDepth 100000 in
set_option maxHeartbeats 2000000 in
theorem rvu_any  (w : World) (g n c : Nat) (A : Option Addr) (b : List UInt8) (s : Rd) (h : RdS w g A n c b s)  :
  Calls Tryz.prog 117 #[.pointer (some ⟨g, 0, none⟩), .func (.func 90) #[.pointer (some ⟨g, 0, none⟩)] #[]] w fun e w' => e = .returned (encU (rdV 0 uD b s).1) ∧ RdS w' g A n c b (rdV 0 uD b s).2 ∧ Kp (· = g) w w' := by
 obtain ⟨off, last, err⟩ := s
 obtain ⟨h, ho⟩ := h
 have H := Lib.hid h
 have HO := Lib.hid ho
 have q0 := h.1.get (j := 3) rfl
 have q1 := h.1.get (j := 1) rfl
 have HG := Lib.hid h.1.lt
 clear h ho
 by_cases h0 : err = 0
 rotate_left
 ·
  rw [rdV_err h0]
  have f0 : (err != 0) = true := by rw [bne_iff_ne]; exact h0
  clear h0
  go_enter_defers Tryz.func117, Tryz.ntmps117
  go_wp2_with (first
   | ((with_reducible show OpW 2); refine wpList_box1 _ rfl 73 (.tmp 0) rfl _ rfl rfl ?_; intro w1 y1 y2 y3; have HR1 := Lib.hid y1; have HB1 := Lib.hid y2; have q2 := cell_kept y2 q0; have q3 := y1.get (j := 0) rfl; clear y1 y2 y3)
   | ((with_reducible show OpW 4); refine wpList_alloc1 _ rfl 98 rfl (.int .u64 0) (by kernel_rfl) rfl ?_; intro w2 y1 y2 y3; have HV2 := Lib.hid y1; have HB2 := Lib.hid (below_then HB1.out y2); have q2 := cell_kept y2 q2; have q3 := cell_kept y2 q3; have q4 := y1.get (j := 0) rfl; clear y1 y2 y3)
   | ((with_reducible show OpN); refine wpList_store1 _ rfl 98 (.tmp 4) (.tmp 11) rfl (sz1 _ (by kernel_rfl) _) w1.heap.size 0 _ _ (.int .u64 0) rfl rfl HV2.out rfl rfl (by simp) ?_; intro w3 y1 y2 y3; have HV3 := Lib.hid y1; have HK3 := Lib.hid y2; clear y1 y2 y3))
  exact ⟨_, results_one Tryz.results117 (fun _ => by kernel_rfl) rfl (HV3.out.get (j := 0) rfl), rfl, ⟨⟨HK3.out.bl (H.out.1.kept HB2.out) (by have := HG.out; have := HB1.out.size; omega), H.out.2.1.kept HB2.out |>.kpf HK3.out (H.out.2.1.far_new (fun k e => by have := HB1.out.size; omega)), H.out.2.2⟩, HO.out⟩, (Kp.of_below (S := (· = g)) HB2.out).after HK3.out (fun i hi e => by have := HB1.out.size; omega)⟩
 ·
  subst h0
  go_enter_defers Tryz.func117, Tryz.ntmps117
  have hmf : ∀ (fn : Fn) (first cap : Array Value) (w : World), (Instr.makeFunc fn first cap).run Tryz.prog w = .ok (.func fn first cap) w := fun _ _ _ _ => rfl
  go_wp2_with (first
   | ((with_reducible show OpW 2); refine wpList_box1 _ rfl 73 (.tmp 0) rfl _ rfl rfl ?_; intro w1 y1 y2 y3; have HR1 := Lib.hid y1; have HB1 := Lib.hid y2; have q2 := cell_kept y2 q0; have q3 := y1.get (j := 0) rfl; have q5 := cell_kept y2 q1; clear y1 y2 y3)
   | ((with_reducible show OpW 4); refine wpList_alloc1 _ rfl 98 rfl (.int .u64 0) (by kernel_rfl) rfl ?_; intro w2 y1 y2 y3; have HV2 := Lib.hid y1; have HB2 := Lib.hid (below_then HB1.out y2); have HR2 := Lib.hid (HR1.out.kept y2); have q2 := cell_kept y2 q2; have q3 := cell_kept y2 q3; have q4 := y1.get (j := 0) rfl; have q5 := cell_kept y2 q5; clear y1 y2 y3)
   | ((with_reducible show OpW 5); refine wpList_alloc1 _ rfl 3 rfl (.int .i64 0) (by kernel_rfl) rfl ?_; intro w3 y1 y2 y3; have HS3 := Lib.hid y1; have HV3 := Lib.hid (HV2.out.kept y2); have HR3 := Lib.hid (HR2.out.kept y2); have HB3 := Lib.hid (below_then HB2.out y2); clear y1 y2 y3)
   | ((with_reducible show OpN); refine wpList_store1 _ rfl 3 (.tmp 5) (.tmp 15) rfl (sz1 _ (by kernel_rfl) _) w2.heap.size 0 _ _ (.int .i64 (off : Int)) rfl rfl HS3.out rfl rfl (by simp) ?_; intro w4 y1 y2 y3; have HS4 := Lib.hid y1; have HK4 := Lib.hid y2; clear y1 y2 y3))
  have HL1 : Hid (w.heap.size < w1.heap.size) := Lib.hid HR1.out.lt
  have HL2 : Hid (w1.heap.size < w2.heap.size) := Lib.hid HV2.out.lt
  have HB4 : Hid (Below w.heap.size w w4) := Lib.hid (((Kp.of_below (S := fun _ => False) HB3.out).after HK4.out (fun i hi e => by have := HL1.out; have := HL2.out; omega)).below (Nat.le_refl _) (fun _ h => h.elim))
  have HR4 := Lib.hid (HK4.out.bl HR3.out (by have := HL1.out; have := HL2.out; omega))
  have HV4 := Lib.hid (HK4.out.bl HV3.out (by have := HL2.out; omega))
  have HX4 := Lib.hid (H.out.kept HB4.out)
  clear q0 q1 q2 q3 q4 q5
  refine Text.wp_region_textN (fun w' => w'.cell? ⟨w.heap.size, 0, none⟩ = some (.pointer (some ⟨g, 0, none⟩))) [(1, 4), (0, 0), (2, 2), (3, 4), (4, 4), (5, 4), (6, 2), (7, 4), (8, 4), (9, 3)] (by kernel_rfl) (by kernel_rfl) (HR4.out.get (j := 0) rfl) ?_
  (refine Text.purek rfl rfl (fun K hK => ⟨_, fun w' => by go_simp <;> rfl, ?_⟩); go_simp; refine hK _ ?_; clear hK K)
  (refine Text.heldk rfl rfl (fun K hK => ⟨_, fun w' hw' => by go_simp <;> rfl, ?_⟩); go_simp; refine hK _ ?_; clear hK K)
  refine Text.eff rfl rfl (fun K hK => ?_)
  go_simp
  refine (number_dec w4.drew g n c A b off last HX4.out.drew HO.out).mono ?_
  rintro e w5 ⟨rfl, k, hk, hkn, hr5, hb5⟩
  obtain ⟨X, hX⟩ : ∃ X, X = uD (b.drop off) := ⟨_, rfl⟩
  rw [← hX] at hk ⊢
  have HR5 := Lib.hid hr5
  have HK5 := Lib.hid hb5
  have HKX := Lib.hid hk
  have HKN := Lib.hid hkn
  have HEX := Lib.hid hX
  clear hk hkn hr5 hb5 hX
  have HP5 : Hid (w5.cell? ⟨w.heap.size, 0, none⟩ = some (.pointer (some ⟨g, 0, none⟩))) := Lib.hid (HK5.out.cell (HR4.out.get (j := 0) rfl) (by have := HG.out; show ¬ w.heap.size = g; omega))
  have HS5 : Hid (w5.cell? ⟨w2.heap.size, 0, none⟩ = some (.int .i64 (off : Int))) := Lib.hid (HK5.out.cell (HS4.out.get (j := 0) rfl) (by have := HG.out; have := HL1.out; have := HL2.out; show ¬ w2.heap.size = g; omega))
  have HV5 := Lib.hid (HK5.out.bl HV4.out (by have := HG.out; have := HL1.out; omega))
  refine hK _ _ HP5.out ?_
  clear hK K
  iterate 3 (refine Text.purek rfl rfl (fun K hK => ⟨_, fun w' => by go_simp <;> rfl, ?_⟩); go_simp; refine hK _ ?_; clear hK K)
  refine Text.eff rfl rfl (fun K hK => ?_)
  refine wp_store1 _ 98 (.tmp 4) (.tmp 21) rfl (sz1 _ (by kernel_rfl) _) w1.heap.size 0 _ _ (encU (vO 0 X)) rfl rfl HV5.out rfl rfl (by simp) ?_
  intro w6 y1 y2 y3
  have HV6 := Lib.hid y1
  have HK6 := Lib.hid y2
  clear y1 y2 y3
  have HP6 : Hid (w6.cell? ⟨w.heap.size, 0, none⟩ = some (.pointer (some ⟨g, 0, none⟩))) := Lib.hid (HK6.out.cell HP5.out (by have := HL1.out; show ¬ w.heap.size = _; omega))
  have HS6 : Hid (w6.cell? ⟨w2.heap.size, 0, none⟩ = some (.int .i64 (off : Int))) := Lib.hid (HK6.out.cell HS5.out (by have := HL2.out; show ¬ w2.heap.size = _; omega))
  have HFA : Hid (FarB A n (· = w1.heap.size)) := Lib.hid (H.out.2.1.far_new (fun k e => by have := HB1.out.size; omega))
  have HR6 : Hid (RdAt w6 g A n c b ((off + k : Nat) : Int) last 0) := Lib.hid ⟨HK6.out.bl HR5.out.1 (by have := HG.out; have := HL1.out; omega), HR5.out.2.1.kpf HK6.out HFA.out, HR5.out.2.2⟩
  refine hK _ _ HP6.out ?_
  clear hK K
  iterate 2 (refine Text.purek rfl rfl (fun K hK => ⟨_, fun w' => by go_simp <;> rfl, ?_⟩); go_simp; refine hK _ ?_; clear hK K)
  refine Text.last rfl rfl (fun K hK => ?_)
  refine wp_store1 _ 25 (.tmp 24) (.tmp 22) rfl (sz1 _ (by kernel_rfl) _) g 3 _ _ (.int .i64 (eO X)) rfl rfl HR6.out.1 rfl rfl (by simp) ?_
  intro w7 y1 y2 y3
  have HR7 := Lib.hid (HR6.out.set (off' := ((off + k : Nat) : Int)) (last' := last) (err' := eO X) y2 y1)
  have HK7 := Lib.hid y2
  clear y1 y2 y3
  have HV7 := Lib.hid (HK7.out.bl HV6.out (by have := HG.out; have := HL1.out; omega))
  have q2 := HV7.out.get (j := 0) rfl
  refine hK _ _ ?_
  clear hK K
  refine Text.done ⟨trivial, ?_⟩
  go_wp2_with (first
   | ((with_reducible show OpN); refine wpList_store1 _ rfl 98 (.tmp 4) (.tmp 25) rfl (sz1 _ (by kernel_rfl) _) w1.heap.size 0 _ _ (encU (vO 0 X)) rfl rfl HV7.out rfl rfl (by simp) ?_; intro w8 y1 y2 y3; have HV8 := Lib.hid y1; have HK8 := Lib.hid y2; clear y1 y2 y3))
  have HP8 : Hid (w8.cell? ⟨w.heap.size, 0, none⟩ = some (.pointer (some ⟨g, 0, none⟩))) := Lib.hid (HK8.out.cell (HK7.out.cell HP6.out (by have := HG.out; show ¬ w.heap.size = _; omega)) (by have := HL1.out; show ¬ w.heap.size = _; omega))
  have HS8 : Hid (w8.cell? ⟨w2.heap.size, 0, none⟩ = some (.int .i64 (off : Int))) := Lib.hid (HK8.out.cell (HK7.out.cell HS6.out (by have := HG.out; have := HL1.out; have := HL2.out; show ¬ w2.heap.size = _; omega)) (by have := HL2.out; show ¬ w2.heap.size = _; omega))
  have HR8 : Hid (RdAt w8 g A n c b ((off + k : Nat) : Int) last (eO X)) := Lib.hid ⟨HK8.out.bl HR7.out.1 (by have := HG.out; have := HL1.out; omega), HR7.out.2.1.kpf HK8.out HFA.out, HR7.out.2.2⟩
  refine leaves_cons (f := 141) (args := #[.pointer (some ⟨w2.heap.size, 0, none⟩), .pointer (some ⟨w.heap.size, 0, none⟩), .pointer (some ⟨w1.heap.size, 0, none⟩)]) (by simp) (by simp [go_sem]) ?_
  refine (rvu_clo w8 g n c w2.heap.size w.heap.size w1.heap.size A b _ last _ (eO X) (encU (vO 0 X)) .returning HR8.out HS8.out HP8.out HV8.out (by have := HG.out; have := HL1.out; have := HL2.out; omega) (by have := HG.out; omega) (by have := HG.out; have := HL1.out; omega) HFA.out).mono ?_
  rintro e u' w9 ⟨rfl, rfl, h1, h2, h3⟩
  refine ⟨_, results_one Tryz.results117 (fun _ => by kernel_rfl) rfl (h2.get (j := 0) rfl), ?_⟩
  have hkp : Kp (· = g) w w9 := by
   have k4 : Kp (· = g) w w4 := Kp.of_below HB4.out
   have k5 : Kp (· = g) w w5 := k4.drew.after HK5.out (fun i _ e => e)
   have k6 : Kp (· = g) w w6 := k5.after HK6.out (fun i hi e => by have := HL1.out; omega)
   have k7 : Kp (· = g) w w7 := k6.after HK7.out (fun i _ e => e)
   have k8 : Kp (· = g) w w8 := k7.after HK8.out (fun i hi e => by have := HL1.out; omega)
   exact k8.after h3 (fun i hi e => e.elim id (fun e => by have := HL1.out; omega))
  cases hx : X with
  | ok x =>
   have e9 := HEX.out
   rw [hx] at e9 h1
   rw [rdV_ok e9.symm]
   obtain rfl := HKX.out x hx
   exact ⟨rfl, ⟨h1, HKN.out⟩, hkp⟩
  | error e =>
   have e9 := HEX.out
   rw [hx] at e9 h1
   have h0 := uD_err e9.symm
   rw [rdV_bad e9.symm]
   rw [show eO (Except.error e : Except Int _) = e from rfl, if_neg h0] at h1
   refine ⟨?_, ⟨h1, HO.out⟩, hkp⟩
   show Ending.returned (if eO (Except.error e : Except Int _) = 0 then _ else _) = _
   rw [show eO (Except.error e : Except Int _) = e from rfl, if_neg h0]
   rfl
set_option maxRecDepth 100000 in
set_option maxHeartbeats 2000000 in
theorem rvi_any (m : Nat) (hm : m ≤ 1099511627776) (p q : Nat) (w : World) (g n c : Nat) (A : Option Addr) (b : List UInt8) (s : Rd) (h : RdS w g A n c b s) (hp : w.cell? ⟨p, 0, none⟩ = some (.pointer (some ⟨g, 0, none⟩))) (hq : w.cell? ⟨q, 0, none⟩ = some (.int .i64 (m : Int))) :
  Calls Tryz.prog 65 #[.pointer (some ⟨g, 0, none⟩), .func (.func 66) #[] #[.pointer (some ⟨p, 0, none⟩), .pointer (some ⟨q, 0, none⟩)]] w fun e w' => e = .returned (encI (rdV 0 (cD m) b s).1) ∧ RdS w' g A n c b (rdV 0 (cD m) b s).2 ∧ Kp (· = g) w w' := by
 obtain ⟨off, last, err⟩ := s
 obtain ⟨h, ho⟩ := h
 have H := Lib.hid h
 have HO := Lib.hid ho
 have q0 := h.1.get (j := 3) rfl
 have q1 := h.1.get (j := 1) rfl
 have HG := Lib.hid h.1.lt
 clear h ho
 by_cases h0 : err = 0
 rotate_left
 ·
  rw [rdV_err h0]
  have f0 : (err != 0) = true := by rw [bne_iff_ne]; exact h0
  clear h0
  go_enter_defers Tryz.func65, Tryz.ntmps65
  go_wp2_with (first
   | ((with_reducible show OpW 2); refine wpList_box1 _ rfl 73 (.tmp 0) rfl _ rfl rfl ?_; intro w1 y1 y2 y3; have HR1 := Lib.hid y1; have HB1 := Lib.hid y2; have q2 := cell_kept y2 q0; have q3 := y1.get (j := 0) rfl; clear y1 y2 y3)
   | ((with_reducible show OpW 4); refine wpList_alloc1 _ rfl 3 rfl (.int .i64 0) (by kernel_rfl) rfl ?_; intro w2 y1 y2 y3; have HV2 := Lib.hid y1; have HB2 := Lib.hid (below_then HB1.out y2); have q2 := cell_kept y2 q2; have q3 := cell_kept y2 q3; have q4 := y1.get (j := 0) rfl; clear y1 y2 y3)
   | ((with_reducible show OpN); refine wpList_store1 _ rfl 3 (.tmp 4) (.tmp 11) rfl (sz1 _ (by kernel_rfl) _) w1.heap.size 0 _ _ (.int .i64 0) rfl rfl HV2.out rfl rfl (by simp) ?_; intro w3 y1 y2 y3; have HV3 := Lib.hid y1; have HK3 := Lib.hid y2; clear y1 y2 y3))
  exact ⟨_, results_one Tryz.results65 (fun _ => by kernel_rfl) rfl (HV3.out.get (j := 0) rfl), rfl, ⟨⟨HK3.out.bl (H.out.1.kept HB2.out) (by have := HG.out; have := HB1.out.size; omega), H.out.2.1.kept HB2.out |>.kpf HK3.out (H.out.2.1.far_new (fun k e => by have := HB1.out.size; omega)), H.out.2.2⟩, HO.out⟩, (Kp.of_below (S := (· = g)) HB2.out).after HK3.out (fun i hi e => by have := HB1.out.size; omega)⟩
 ·
  subst h0
  go_enter_defers Tryz.func65, Tryz.ntmps65
  have hmf : ∀ (fn : Fn) (first cap : Array Value) (w : World), (Instr.makeFunc fn first cap).run Tryz.prog w = .ok (.func fn first cap) w := fun _ _ _ _ => rfl
  go_wp2_with (first
   | ((with_reducible show OpW 2); refine wpList_box1 _ rfl 73 (.tmp 0) rfl _ rfl rfl ?_; intro w1 y1 y2 y3; have HR1 := Lib.hid y1; have HB1 := Lib.hid y2; have q2 := cell_kept y2 q0; have q3 := y1.get (j := 0) rfl; have q5 := cell_kept y2 q1; clear y1 y2 y3)
   | ((with_reducible show OpW 4); refine wpList_alloc1 _ rfl 3 rfl (.int .i64 0) (by kernel_rfl) rfl ?_; intro w2 y1 y2 y3; have HV2 := Lib.hid y1; have HB2 := Lib.hid (below_then HB1.out y2); have HR2 := Lib.hid (HR1.out.kept y2); have q2 := cell_kept y2 q2; have q3 := cell_kept y2 q3; have q4 := y1.get (j := 0) rfl; have q5 := cell_kept y2 q5; clear y1 y2 y3)
   | ((with_reducible show OpW 5); refine wpList_alloc1 _ rfl 3 rfl (.int .i64 0) (by kernel_rfl) rfl ?_; intro w3 y1 y2 y3; have HS3 := Lib.hid y1; have HV3 := Lib.hid (HV2.out.kept y2); have HR3 := Lib.hid (HR2.out.kept y2); have HB3 := Lib.hid (below_then HB2.out y2); clear y1 y2 y3)
   | ((with_reducible show OpN); refine wpList_store1 _ rfl 3 (.tmp 5) (.tmp 15) rfl (sz1 _ (by kernel_rfl) _) w2.heap.size 0 _ _ (.int .i64 (off : Int)) rfl rfl HS3.out rfl rfl (by simp) ?_; intro w4 y1 y2 y3; have HS4 := Lib.hid y1; have HK4 := Lib.hid y2; clear y1 y2 y3))
  have HL1 : Hid (w.heap.size < w1.heap.size) := Lib.hid HR1.out.lt
  have HL2 : Hid (w1.heap.size < w2.heap.size) := Lib.hid HV2.out.lt
  have HB4 : Hid (Below w.heap.size w w4) := Lib.hid (((Kp.of_below (S := fun _ => False) HB3.out).after HK4.out (fun i hi e => by have := HL1.out; have := HL2.out; omega)).below (Nat.le_refl _) (fun _ h => h.elim))
  have HR4 := Lib.hid (HK4.out.bl HR3.out (by have := HL1.out; have := HL2.out; omega))
  have HV4 := Lib.hid (HK4.out.bl HV3.out (by have := HL2.out; omega))
  have HX4 := Lib.hid (H.out.kept HB4.out)
  clear q0 q1 q2 q3 q4 q5
  refine Text.wp_region_textN (fun w' => w'.cell? ⟨w.heap.size, 0, none⟩ = some (.pointer (some ⟨g, 0, none⟩))) [(1, 4), (0, 0), (2, 2), (3, 4), (4, 4), (5, 4), (6, 2), (7, 4), (8, 4), (9, 3)] (by kernel_rfl) (by kernel_rfl) (HR4.out.get (j := 0) rfl) ?_
  (refine Text.purek rfl rfl (fun K hK => ⟨_, fun w' => by go_simp <;> rfl, ?_⟩); go_simp; refine hK _ ?_; clear hK K)
  (refine Text.heldk rfl rfl (fun K hK => ⟨_, fun w' hw' => by go_simp <;> rfl, ?_⟩); go_simp; refine hK _ ?_; clear hK K)
  refine Text.eff rfl rfl (fun K hK => ?_)
  go_simp
  refine (count1_any m hm w4.drew g n c p q A b off last HX4.out.drew HO.out (cell_kept HB4.out.drew hp) (cell_kept HB4.out.drew hq)).mono ?_
  rintro e w5 ⟨rfl, k, hk, hkn, hr5, hb5⟩
  obtain ⟨X, hX⟩ : ∃ X, X = (cD m) (b.drop off) := ⟨_, rfl⟩
  rw [← hX] at hk ⊢
  have HR5 := Lib.hid hr5
  have HK5 := Lib.hid hb5
  have HKX := Lib.hid hk
  have HKN := Lib.hid hkn
  have HEX := Lib.hid hX
  clear hk hkn hr5 hb5 hX
  have HP5 : Hid (w5.cell? ⟨w.heap.size, 0, none⟩ = some (.pointer (some ⟨g, 0, none⟩))) := Lib.hid (HK5.out.cell (HR4.out.get (j := 0) rfl) (by have := HG.out; show ¬ w.heap.size = g; omega))
  have HS5 : Hid (w5.cell? ⟨w2.heap.size, 0, none⟩ = some (.int .i64 (off : Int))) := Lib.hid (HK5.out.cell (HS4.out.get (j := 0) rfl) (by have := HG.out; have := HL1.out; have := HL2.out; show ¬ w2.heap.size = g; omega))
  have HV5 := Lib.hid (HK5.out.bl HV4.out (by have := HG.out; have := HL1.out; omega))
  refine hK _ _ HP5.out ?_
  clear hK K
  iterate 3 (refine Text.purek rfl rfl (fun K hK => ⟨_, fun w' => by go_simp <;> rfl, ?_⟩); go_simp; refine hK _ ?_; clear hK K)
  refine Text.eff rfl rfl (fun K hK => ?_)
  refine wp_store1 _ 3 (.tmp 4) (.tmp 21) rfl (sz1 _ (by kernel_rfl) _) w1.heap.size 0 _ _ (encI (vO 0 X)) rfl rfl HV5.out rfl rfl (by simp) ?_
  intro w6 y1 y2 y3
  have HV6 := Lib.hid y1
  have HK6 := Lib.hid y2
  clear y1 y2 y3
  have HP6 : Hid (w6.cell? ⟨w.heap.size, 0, none⟩ = some (.pointer (some ⟨g, 0, none⟩))) := Lib.hid (HK6.out.cell HP5.out (by have := HL1.out; show ¬ w.heap.size = _; omega))
  have HS6 : Hid (w6.cell? ⟨w2.heap.size, 0, none⟩ = some (.int .i64 (off : Int))) := Lib.hid (HK6.out.cell HS5.out (by have := HL2.out; show ¬ w2.heap.size = _; omega))
  have HFA : Hid (FarB A n (· = w1.heap.size)) := Lib.hid (H.out.2.1.far_new (fun k e => by have := HB1.out.size; omega))
  have HR6 : Hid (RdAt w6 g A n c b ((off + k : Nat) : Int) last 0) := Lib.hid ⟨HK6.out.bl HR5.out.1 (by have := HG.out; have := HL1.out; omega), HR5.out.2.1.kpf HK6.out HFA.out, HR5.out.2.2⟩
  refine hK _ _ HP6.out ?_
  clear hK K
  iterate 2 (refine Text.purek rfl rfl (fun K hK => ⟨_, fun w' => by go_simp <;> rfl, ?_⟩); go_simp; refine hK _ ?_; clear hK K)
  refine Text.last rfl rfl (fun K hK => ?_)
  refine wp_store1 _ 25 (.tmp 24) (.tmp 22) rfl (sz1 _ (by kernel_rfl) _) g 3 _ _ (.int .i64 (eO X)) rfl rfl HR6.out.1 rfl rfl (by simp) ?_
  intro w7 y1 y2 y3
  have HR7 := Lib.hid (HR6.out.set (off' := ((off + k : Nat) : Int)) (last' := last) (err' := eO X) y2 y1)
  have HK7 := Lib.hid y2
  clear y1 y2 y3
  have HV7 := Lib.hid (HK7.out.bl HV6.out (by have := HG.out; have := HL1.out; omega))
  have q2 := HV7.out.get (j := 0) rfl
  refine hK _ _ ?_
  clear hK K
  refine Text.done ⟨trivial, ?_⟩
  go_wp2_with (first
   | ((with_reducible show OpN); refine wpList_store1 _ rfl 3 (.tmp 4) (.tmp 25) rfl (sz1 _ (by kernel_rfl) _) w1.heap.size 0 _ _ (encI (vO 0 X)) rfl rfl HV7.out rfl rfl (by simp) ?_; intro w8 y1 y2 y3; have HV8 := Lib.hid y1; have HK8 := Lib.hid y2; clear y1 y2 y3))
  have HP8 : Hid (w8.cell? ⟨w.heap.size, 0, none⟩ = some (.pointer (some ⟨g, 0, none⟩))) := Lib.hid (HK8.out.cell (HK7.out.cell HP6.out (by have := HG.out; show ¬ w.heap.size = _; omega)) (by have := HL1.out; show ¬ w.heap.size = _; omega))
  have HS8 : Hid (w8.cell? ⟨w2.heap.size, 0, none⟩ = some (.int .i64 (off : Int))) := Lib.hid (HK8.out.cell (HK7.out.cell HS6.out (by have := HG.out; have := HL1.out; have := HL2.out; show ¬ w2.heap.size = _; omega)) (by have := HL2.out; show ¬ w2.heap.size = _; omega))
  have HR8 : Hid (RdAt w8 g A n c b ((off + k : Nat) : Int) last (eO X)) := Lib.hid ⟨HK8.out.bl HR7.out.1 (by have := HG.out; have := HL1.out; omega), HR7.out.2.1.kpf HK8.out HFA.out, HR7.out.2.2⟩
  refine leaves_cons (f := 89) (args := #[.pointer (some ⟨w2.heap.size, 0, none⟩), .pointer (some ⟨w.heap.size, 0, none⟩), .pointer (some ⟨w1.heap.size, 0, none⟩)]) (by simp) (by simp [go_sem]) ?_
  refine (rvi_clo w8 g n c w2.heap.size w.heap.size w1.heap.size A b _ last _ (eO X) (encI (vO 0 X)) .returning HR8.out HS8.out HP8.out HV8.out (by have := HG.out; have := HL1.out; have := HL2.out; omega) (by have := HG.out; omega) (by have := HG.out; have := HL1.out; omega) HFA.out).mono ?_
  rintro e u' w9 ⟨rfl, rfl, h1, h2, h3⟩
  refine ⟨_, results_one Tryz.results65 (fun _ => by kernel_rfl) rfl (h2.get (j := 0) rfl), ?_⟩
  have hkp : Kp (· = g) w w9 := by
   have k4 : Kp (· = g) w w4 := Kp.of_below HB4.out
   have k5 : Kp (· = g) w w5 := k4.drew.after HK5.out (fun i _ e => e)
   have k6 : Kp (· = g) w w6 := k5.after HK6.out (fun i hi e => by have := HL1.out; omega)
   have k7 : Kp (· = g) w w7 := k6.after HK7.out (fun i _ e => e)
   have k8 : Kp (· = g) w w8 := k7.after HK8.out (fun i hi e => by have := HL1.out; omega)
   exact k8.after h3 (fun i hi e => e.elim id (fun e => by have := HL1.out; omega))
  cases hx : X with
  | ok x =>
   have e9 := HEX.out
   rw [hx] at e9 h1
   rw [rdV_ok e9.symm]
   obtain rfl := HKX.out x hx
   exact ⟨rfl, ⟨h1, HKN.out⟩, hkp⟩
  | error e =>
   have e9 := HEX.out
   rw [hx] at e9 h1
   have h0 := cD_err e9.symm
   rw [rdV_bad e9.symm]
   rw [show eO (Except.error e : Except Int _) = e from rfl, if_neg h0] at h1
   refine ⟨?_, ⟨h1, HO.out⟩, hkp⟩
   show Ending.returned (if eO (Except.error e : Except Int _) = 0 then _ else _) = _
   rw [show eO (Except.error e : Except Int _) = e from rfl, if_neg h0]
   rfl
set_option maxRecDepth 100000 in
set_option maxHeartbeats 2000000 in
theorem rvs_any (p : Nat) (w : World) (g n c : Nat) (A : Option Addr) (b : List UInt8) (s : Rd) (h : RdS w g A n c b s) (hp : w.cell? ⟨p, 0, none⟩ = some (.pointer (some ⟨g, 0, none⟩))) :
  Calls Tryz.prog 91 #[.pointer (some ⟨g, 0, none⟩), .func (.func 92) #[] #[.pointer (some ⟨p, 0, none⟩)]] w fun e w' => e = .returned (encS (rdV [] sD b s).1) ∧ RdS w' g A n c b (rdV [] sD b s).2 ∧ Kp (· = g) w w' := by
 obtain ⟨off, last, err⟩ := s
 obtain ⟨h, ho⟩ := h
 have H := Lib.hid h
 have HO := Lib.hid ho
 have q0 := h.1.get (j := 3) rfl
 have q1 := h.1.get (j := 1) rfl
 have HG := Lib.hid h.1.lt
 clear h ho
 by_cases h0 : err = 0
 rotate_left
 ·
  rw [rdV_err h0]
  have f0 : (err != 0) = true := by rw [bne_iff_ne]; exact h0
  clear h0
  go_enter_defers Tryz.func91, Tryz.ntmps91
  go_wp2_with (first
   | ((with_reducible show OpW 2); refine wpList_box1 _ rfl 73 (.tmp 0) rfl _ rfl rfl ?_; intro w1 y1 y2 y3; have HR1 := Lib.hid y1; have HB1 := Lib.hid y2; have q2 := cell_kept y2 q0; have q3 := y1.get (j := 0) rfl; clear y1 y2 y3)
   | ((with_reducible show OpW 4); refine wpList_alloc1 _ rfl 9 rfl (.string (strB [])) (by kernel_rfl) rfl ?_; intro w2 y1 y2 y3; have HV2 := Lib.hid y1; have HB2 := Lib.hid (below_then HB1.out y2); have q2 := cell_kept y2 q2; have q3 := cell_kept y2 q3; have q4 := y1.get (j := 0) rfl; clear y1 y2 y3)
   | ((with_reducible show OpN); refine wpList_store1 _ rfl 9 (.tmp 4) (.tmp 11) rfl (sz1 _ (by kernel_rfl) _) w1.heap.size 0 _ _ (.string (strB [])) rfl rfl HV2.out rfl rfl (by simp) ?_; intro w3 y1 y2 y3; have HV3 := Lib.hid y1; have HK3 := Lib.hid y2; clear y1 y2 y3))
  exact ⟨_, results_one Tryz.results91 (fun _ => by kernel_rfl) rfl (HV3.out.get (j := 0) rfl), rfl, ⟨⟨HK3.out.bl (H.out.1.kept HB2.out) (by have := HG.out; have := HB1.out.size; omega), H.out.2.1.kept HB2.out |>.kpf HK3.out (H.out.2.1.far_new (fun k e => by have := HB1.out.size; omega)), H.out.2.2⟩, HO.out⟩, (Kp.of_below (S := (· = g)) HB2.out).after HK3.out (fun i hi e => by have := HB1.out.size; omega)⟩
 ·
  subst h0
  go_enter_defers Tryz.func91, Tryz.ntmps91
  have hmf : ∀ (fn : Fn) (first cap : Array Value) (w : World), (Instr.makeFunc fn first cap).run Tryz.prog w = .ok (.func fn first cap) w := fun _ _ _ _ => rfl
  go_wp2_with (first
   | ((with_reducible show OpW 2); refine wpList_box1 _ rfl 73 (.tmp 0) rfl _ rfl rfl ?_; intro w1 y1 y2 y3; have HR1 := Lib.hid y1; have HB1 := Lib.hid y2; have q2 := cell_kept y2 q0; have q3 := y1.get (j := 0) rfl; have q5 := cell_kept y2 q1; clear y1 y2 y3)
   | ((with_reducible show OpW 4); refine wpList_alloc1 _ rfl 9 rfl (.string (strB [])) (by kernel_rfl) rfl ?_; intro w2 y1 y2 y3; have HV2 := Lib.hid y1; have HB2 := Lib.hid (below_then HB1.out y2); have HR2 := Lib.hid (HR1.out.kept y2); have q2 := cell_kept y2 q2; have q3 := cell_kept y2 q3; have q4 := y1.get (j := 0) rfl; have q5 := cell_kept y2 q5; clear y1 y2 y3)
   | ((with_reducible show OpW 5); refine wpList_alloc1 _ rfl 3 rfl (.int .i64 0) (by kernel_rfl) rfl ?_; intro w3 y1 y2 y3; have HS3 := Lib.hid y1; have HV3 := Lib.hid (HV2.out.kept y2); have HR3 := Lib.hid (HR2.out.kept y2); have HB3 := Lib.hid (below_then HB2.out y2); clear y1 y2 y3)
   | ((with_reducible show OpN); refine wpList_store1 _ rfl 3 (.tmp 5) (.tmp 15) rfl (sz1 _ (by kernel_rfl) _) w2.heap.size 0 _ _ (.int .i64 (off : Int)) rfl rfl HS3.out rfl rfl (by simp) ?_; intro w4 y1 y2 y3; have HS4 := Lib.hid y1; have HK4 := Lib.hid y2; clear y1 y2 y3))
  have HL1 : Hid (w.heap.size < w1.heap.size) := Lib.hid HR1.out.lt
  have HL2 : Hid (w1.heap.size < w2.heap.size) := Lib.hid HV2.out.lt
  have HB4 : Hid (Below w.heap.size w w4) := Lib.hid (((Kp.of_below (S := fun _ => False) HB3.out).after HK4.out (fun i hi e => by have := HL1.out; have := HL2.out; omega)).below (Nat.le_refl _) (fun _ h => h.elim))
  have HR4 := Lib.hid (HK4.out.bl HR3.out (by have := HL1.out; have := HL2.out; omega))
  have HV4 := Lib.hid (HK4.out.bl HV3.out (by have := HL2.out; omega))
  have HX4 := Lib.hid (H.out.kept HB4.out)
  clear q0 q1 q2 q3 q4 q5
  refine Text.wp_region_textN (fun w' => w'.cell? ⟨w.heap.size, 0, none⟩ = some (.pointer (some ⟨g, 0, none⟩))) [(1, 4), (0, 0), (2, 2), (3, 4), (4, 4), (5, 4), (6, 2), (7, 4), (8, 4), (9, 3)] (by kernel_rfl) (by kernel_rfl) (HR4.out.get (j := 0) rfl) ?_
  (refine Text.purek rfl rfl (fun K hK => ⟨_, fun w' => by go_simp <;> rfl, ?_⟩); go_simp; refine hK _ ?_; clear hK K)
  (refine Text.heldk rfl rfl (fun K hK => ⟨_, fun w' hw' => by go_simp <;> rfl, ?_⟩); go_simp; refine hK _ ?_; clear hK K)
  refine Text.eff rfl rfl (fun K hK => ?_)
  go_simp
  refine (sum1_any w4.drew g n c p A b off last HX4.out.drew HO.out (cell_kept HB4.out.drew hp)).mono ?_
  rintro e w5 ⟨rfl, k, hk, hkn, hr5, hb5⟩
  obtain ⟨X, hX⟩ : ∃ X, X = sD (b.drop off) := ⟨_, rfl⟩
  rw [← hX] at hk ⊢
  have HR5 := Lib.hid hr5
  have HK5 := Lib.hid hb5
  have HKX := Lib.hid hk
  have HKN := Lib.hid hkn
  have HEX := Lib.hid hX
  clear hk hkn hr5 hb5 hX
  have HP5 : Hid (w5.cell? ⟨w.heap.size, 0, none⟩ = some (.pointer (some ⟨g, 0, none⟩))) := Lib.hid (HK5.out.cell (HR4.out.get (j := 0) rfl) (by have := HG.out; show ¬ w.heap.size = g; omega))
  have HS5 : Hid (w5.cell? ⟨w2.heap.size, 0, none⟩ = some (.int .i64 (off : Int))) := Lib.hid (HK5.out.cell (HS4.out.get (j := 0) rfl) (by have := HG.out; have := HL1.out; have := HL2.out; show ¬ w2.heap.size = g; omega))
  have HV5 := Lib.hid (HK5.out.bl HV4.out (by have := HG.out; have := HL1.out; omega))
  refine hK _ _ HP5.out ?_
  clear hK K
  iterate 3 (refine Text.purek rfl rfl (fun K hK => ⟨_, fun w' => by go_simp <;> rfl, ?_⟩); go_simp; refine hK _ ?_; clear hK K)
  refine Text.eff rfl rfl (fun K hK => ?_)
  refine wp_store1 _ 9 (.tmp 4) (.tmp 21) rfl (sz1 _ (by kernel_rfl) _) w1.heap.size 0 _ _ (encS (vO [] X)) rfl rfl HV5.out rfl rfl (by simp) ?_
  intro w6 y1 y2 y3
  have HV6 := Lib.hid y1
  have HK6 := Lib.hid y2
  clear y1 y2 y3
  have HP6 : Hid (w6.cell? ⟨w.heap.size, 0, none⟩ = some (.pointer (some ⟨g, 0, none⟩))) := Lib.hid (HK6.out.cell HP5.out (by have := HL1.out; show ¬ w.heap.size = _; omega))
  have HS6 : Hid (w6.cell? ⟨w2.heap.size, 0, none⟩ = some (.int .i64 (off : Int))) := Lib.hid (HK6.out.cell HS5.out (by have := HL2.out; show ¬ w2.heap.size = _; omega))
  have HFA : Hid (FarB A n (· = w1.heap.size)) := Lib.hid (H.out.2.1.far_new (fun k e => by have := HB1.out.size; omega))
  have HR6 : Hid (RdAt w6 g A n c b ((off + k : Nat) : Int) last 0) := Lib.hid ⟨HK6.out.bl HR5.out.1 (by have := HG.out; have := HL1.out; omega), HR5.out.2.1.kpf HK6.out HFA.out, HR5.out.2.2⟩
  refine hK _ _ HP6.out ?_
  clear hK K
  iterate 2 (refine Text.purek rfl rfl (fun K hK => ⟨_, fun w' => by go_simp <;> rfl, ?_⟩); go_simp; refine hK _ ?_; clear hK K)
  refine Text.last rfl rfl (fun K hK => ?_)
  refine wp_store1 _ 25 (.tmp 24) (.tmp 22) rfl (sz1 _ (by kernel_rfl) _) g 3 _ _ (.int .i64 (eO X)) rfl rfl HR6.out.1 rfl rfl (by simp) ?_
  intro w7 y1 y2 y3
  have HR7 := Lib.hid (HR6.out.set (off' := ((off + k : Nat) : Int)) (last' := last) (err' := eO X) y2 y1)
  have HK7 := Lib.hid y2
  clear y1 y2 y3
  have HV7 := Lib.hid (HK7.out.bl HV6.out (by have := HG.out; have := HL1.out; omega))
  have q2 := HV7.out.get (j := 0) rfl
  refine hK _ _ ?_
  clear hK K
  refine Text.done ⟨trivial, ?_⟩
  go_wp2_with (first
   | ((with_reducible show OpN); refine wpList_store1 _ rfl 9 (.tmp 4) (.tmp 25) rfl (sz1 _ (by kernel_rfl) _) w1.heap.size 0 _ _ (encS (vO [] X)) rfl rfl HV7.out rfl rfl (by simp) ?_; intro w8 y1 y2 y3; have HV8 := Lib.hid y1; have HK8 := Lib.hid y2; clear y1 y2 y3))
  have HP8 : Hid (w8.cell? ⟨w.heap.size, 0, none⟩ = some (.pointer (some ⟨g, 0, none⟩))) := Lib.hid (HK8.out.cell (HK7.out.cell HP6.out (by have := HG.out; show ¬ w.heap.size = _; omega)) (by have := HL1.out; show ¬ w.heap.size = _; omega))
  have HS8 : Hid (w8.cell? ⟨w2.heap.size, 0, none⟩ = some (.int .i64 (off : Int))) := Lib.hid (HK8.out.cell (HK7.out.cell HS6.out (by have := HG.out; have := HL1.out; have := HL2.out; show ¬ w2.heap.size = _; omega)) (by have := HL2.out; show ¬ w2.heap.size = _; omega))
  have HR8 : Hid (RdAt w8 g A n c b ((off + k : Nat) : Int) last (eO X)) := Lib.hid ⟨HK8.out.bl HR7.out.1 (by have := HG.out; have := HL1.out; omega), HR7.out.2.1.kpf HK8.out HFA.out, HR7.out.2.2⟩
  refine leaves_cons (f := 116) (args := #[.pointer (some ⟨w2.heap.size, 0, none⟩), .pointer (some ⟨w.heap.size, 0, none⟩), .pointer (some ⟨w1.heap.size, 0, none⟩)]) (by simp) (by simp [go_sem]) ?_
  refine (rvs_clo w8 g n c w2.heap.size w.heap.size w1.heap.size A b _ last _ (eO X) (encS (vO [] X)) .returning HR8.out HS8.out HP8.out HV8.out (by have := HG.out; have := HL1.out; have := HL2.out; omega) (by have := HG.out; omega) (by have := HG.out; have := HL1.out; omega) HFA.out).mono ?_
  rintro e u' w9 ⟨rfl, rfl, h1, h2, h3⟩
  refine ⟨_, results_one Tryz.results91 (fun _ => by kernel_rfl) rfl (h2.get (j := 0) rfl), ?_⟩
  have hkp : Kp (· = g) w w9 := by
   have k4 : Kp (· = g) w w4 := Kp.of_below HB4.out
   have k5 : Kp (· = g) w w5 := k4.drew.after HK5.out (fun i _ e => e)
   have k6 : Kp (· = g) w w6 := k5.after HK6.out (fun i hi e => by have := HL1.out; omega)
   have k7 : Kp (· = g) w w7 := k6.after HK7.out (fun i _ e => e)
   have k8 : Kp (· = g) w w8 := k7.after HK8.out (fun i hi e => by have := HL1.out; omega)
   exact k8.after h3 (fun i hi e => e.elim id (fun e => by have := HL1.out; omega))
  cases hx : X with
  | ok x =>
   have e9 := HEX.out
   rw [hx] at e9 h1
   rw [rdV_ok e9.symm]
   obtain rfl := HKX.out x hx
   exact ⟨rfl, ⟨h1, HKN.out⟩, hkp⟩
  | error e =>
   have e9 := HEX.out
   rw [hx] at e9 h1
   have h0 := sD_err e9.symm
   rw [rdV_bad e9.symm]
   rw [show eO (Except.error e : Except Int _) = e from rfl, if_neg h0] at h1
   refine ⟨?_, ⟨h1, HO.out⟩, hkp⟩
   show Ending.returned (if eO (Except.error e : Except Int _) = 0 then _ else _) = _
   rw [show eO (Except.error e : Except Int _) = e from rfl, if_neg h0]
   rfl
end Go.Proofs.YtheijpjfpaghfaaGreatDoor
