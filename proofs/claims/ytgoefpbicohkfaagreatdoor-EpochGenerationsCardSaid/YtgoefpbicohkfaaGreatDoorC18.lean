/- Several texts in one: Ef, G8. -/
import Derived.Test.YtgoefpbicohkfaaGreatDoorC17
import Derived.Maps.RangeRun
import Derived.Laws.StructEq
/- wire.NewReader, Uint, Count, Sum, Fail, End; epoch.readUint, isReply, replyBody. -/
namespace Go.Proofs.YtgoefpbicohkfaaGreatDoor
open Go Go.RowKit Gf Sha

section
set_option maxHeartbeats 1000000
theorem ruint_any (w : World) (g n c : Nat) (A : Option Addr) (b : List UInt8) (s : Rd) (h : RdS w g A n c b s) :
    Calls Tryz.prog 87 #[.pointer (some ⟨g, 0, none⟩)] w fun e w' => e = .returned (.int .u64 (((rdV 0 uD b s).1 : Nat) : Int)) ∧ RdS w' g A n c b (rdV 0 uD b s).2 ∧ Kp (· = g) w w' := by
  have H := Lib.hid (rvu_any w g n c A b s h)
  clear h
  have hmf : ∀ (fn : Fn) (first cap : Array Value) (w : World), (Instr.makeFunc fn first cap).run Tryz.prog w = .ok (.func fn first cap) w := fun _ _ _ _ => rfl
  go_enter Tryz.func87, Tryz.ntmps87
  go_wp2_with (first
    | (go_at_call 110; refine H.out.mono ?_; rintro e w1 ⟨rfl, h1⟩; have HR := Lib.hid h1; clear h1))
  go_ret
  exact ⟨rfl, HR.out⟩
theorem rcount_any (m : Nat) (hm : m ≤ 1099511627776) (w : World) (g n c : Nat) (A : Option Addr) (b : List UInt8) (s : Rd) (h : RdS w g A n c b s) :
    Calls Tryz.prog 71 #[.pointer (some ⟨g, 0, none⟩), .int .i64 (m : Int)] w fun e w' => e = .returned (.int .i64 (((rdV 0 (cD m) b s).1 : Nat) : Int)) ∧ RdS w' g A n c b (rdV 0 (cD m) b s).2 ∧ Kp (· = g) w w' := by
  have H := Lib.hid h
  clear h
  have hmf : ∀ (fn : Fn) (first cap : Array Value) (w : World), (Instr.makeFunc fn first cap).run Tryz.prog w = .ok (.func fn first cap) w := fun _ _ _ _ => rfl
  go_enter Tryz.func71, Tryz.ntmps71
  go_wp2_with (first
    | ((with_reducible show wpList _ _ _ (⟨some 2, _, _, _, _, _⟩ :: _) _ _); refine wpList_box1 _ rfl 111 (.tmp 0) rfl _ rfl rfl ?_; intro w1 y1 y2 y3; have HR1 := Lib.hid y1; have HB1 := Lib.hid y2; clear y1 y2 y3)
    | ((with_reducible show wpList _ _ _ (⟨some 3, _, _, _, _, _⟩ :: _) _ _); refine wpList_box1 _ rfl 3 (.tmp 1) rfl _ rfl rfl ?_; intro w2 y1 y2 y3; have HS2 := Lib.hid y1; have HR2 := Lib.hid (HR1.out.kept y2); have HB2 := Lib.hid (below_then HB1.out y2); have q2 := HR2.out.get (j := 0) rfl; clear y1 y2 y3)
    | (go_at_call 89; refine (rvi_any m hm w.heap.size w1.heap.size w2 g n c A b s (H.out.kept HB2.out) (HR2.out.get (j := 0) rfl) (HS2.out.get (j := 0) rfl)).mono ?_; rintro e w3 ⟨rfl, h1, h2⟩; have HR := Lib.hid h1; have HK := Lib.hid h2; clear h1 h2))
  go_ret
  exact ⟨rfl, HR.out, (Kp.of_below (S := (· = g)) HB2.out).trans HK.out⟩
theorem rsum_any (w : World) (g n c : Nat) (A : Option Addr) (b : List UInt8) (s : Rd) (h : RdS w g A n c b s) :
    Calls Tryz.prog 72 #[.pointer (some ⟨g, 0, none⟩)] w fun e w' => e = .returned (.string (strB (rdV [] sD b s).1)) ∧ RdS w' g A n c b (rdV [] sD b s).2 ∧ Kp (· = g) w w' := by
  have H := Lib.hid h
  clear h
  have hmf : ∀ (fn : Fn) (first cap : Array Value) (w : World), (Instr.makeFunc fn first cap).run Tryz.prog w = .ok (.func fn first cap) w := fun _ _ _ _ => rfl
  go_enter Tryz.func72, Tryz.ntmps72
  go_wp2_with (first
    | ((with_reducible show wpList _ _ _ (⟨some 1, _, _, _, _, _⟩ :: _) _ _); refine wpList_box1 _ rfl 111 (.tmp 0) rfl _ rfl rfl ?_; intro w1 y1 y2 y3; have HR1 := Lib.hid y1; have HB1 := Lib.hid y2; have q2 := y1.get (j := 0) rfl; clear y1 y2 y3)
    | (go_at_call 92; refine (rvs_any w.heap.size w1 g n c A b s (H.out.kept HB1.out) (HR1.out.get (j := 0) rfl)).mono ?_; rintro e w3 ⟨rfl, h1, h2⟩; have HR := Lib.hid h1; have HK := Lib.hid h2; clear h1 h2))
  go_ret
  exact ⟨rfl, HR.out, (Kp.of_below (S := (· = g)) HB1.out).trans HK.out⟩
/-- The value read last is marked as invalid. -/
def failR (s : Rd) : Rd := if s.err = 0 then ⟨s.last.toNat, s.last, 3⟩ else s
theorem fail_any (w : World) (g n c : Nat) (A : Option Addr) (b : List UInt8) (s : Rd) (h : RdS w g A n c b s) (hl : 0 ≤ s.last ∧ s.last ≤ (n : Int)) :
    Calls Tryz.prog 88 #[.pointer (some ⟨g, 0, none⟩)] w fun e w' => e = .returned (.tuple #[]) ∧ RdS w' g A n c b (failR s) ∧ Kp (· = g) w w' := by
  obtain ⟨off, last, err⟩ := s
  obtain ⟨h, ho⟩ := h
  have q0 := h.1.get (j := 3) rfl
  have H := Lib.hid h
  have HL : Hid (0 ≤ last ∧ last ≤ (n : Int)) := Lib.hid hl
  clear h hl
  by_cases h0 : err = 0
  · subst h0
    go_enter Tryz.func88, Tryz.ntmps88
    go_wp2_with (first
      | ((with_reducible show wpList _ _ _ (⟨none, _, _, _, _, _⟩ :: _) _ _); refine wpList_store1 _ rfl 27 (.tmp 9) (.const (.int .i64 3)) rfl (sz1 _ (by kernel_rfl) _) g 3 _ _ (.int .i64 3) rfl rfl H.out.1 rfl rfl (by simp) ?_; intro w1 y1 y2 y3; have HR1 := Lib.hid (H.out.set (off' := (off : Int)) (last' := last) (err' := 3) y2 y1); have HK1 := Lib.hid y2; have q0 := y1.get (j := 3) rfl; have q1 := y1.get (j := 2) rfl; clear y1 y2 y3)
      | ((with_reducible show wpList _ _ _ (⟨none, _, _, _, _, _⟩ :: _) _ _); refine wpList_store1 _ rfl 3 (.tmp 16) (.tmp 14) rfl (sz1 _ (by kernel_rfl) _) g 1 _ _ (.int .i64 last) rfl rfl HR1.out.1 rfl rfl (by simp) ?_; intro w2 y1 y2 y3; have HR2 := Lib.hid (HR1.out.set (off' := last) (last' := last) (err' := 3) y2 y1); have HK2 := Lib.hid (HK1.out.trans y2); clear y1 y2 y3))
    go_end0
    refine ⟨rfl, ?_, HK2.out⟩
    rw [failR, if_pos rfl]
    refine ⟨?_, ?_⟩
    · show RdAt w2 g A n c b ((last.toNat : Nat) : Int) last 3
      rw [Int.toNat_of_nonneg HL.out.1]
      exact HR2.out
    · have := HL.out
      show last.toNat ≤ n
      omega
  · have f0 : (err == 0) = false := by rw [beq_eq_false_iff_ne]; exact h0
    rw [failR, if_neg h0]
    clear h0
    go_enter Tryz.func88, Tryz.ntmps88
    go_wp2_with fail
    go_end0
    exact ⟨rfl, ⟨H.out, ho⟩, Kp.refl _ _⟩
/-- The error at the end. -/
def endR (n : Nat) (s : Rd) : Int := if s.err = 0 then (if s.off < n then 3 else 0) else s.err
theorem end_any (w : World) (g n c : Nat) (A : Option Addr) (b : List UInt8) (s : Rd) (h : RdS w g A n c b s) :
    Calls Tryz.prog 73 #[.pointer (some ⟨g, 0, none⟩)] w fun e w' => (∃ z : Int, e = .returned (.tuple #[.int .i64 z, .int .i64 (endR n s)])) ∧ Below w.heap.size w w' := by
  obtain ⟨off, last, err⟩ := s
  obtain ⟨h, ho⟩ := h
  have q0 := h.1.get (j := 3) rfl
  have q1 := h.1.get (j := 1) rfl
  have H := Lib.hid h
  clear h
  by_cases h0 : err = 0
  rotate_left
  · have f0 : (err != 0) = true := by rw [bne_iff_ne]; exact h0
    rw [endR, if_neg h0]
    clear h0
    go_enter Tryz.func73, Tryz.ntmps73
    go_wp2_with fail
    refine Text.wp_region_text (fun w' => w'.cell? ⟨g, 1, none⟩ = some (.int .i64 (off : Int)) ∧ w'.cell? ⟨g, 3, none⟩ = some (.int .i64 err)) [(0, 4), (1, 4), (2, 4), (4, 4), (5, 4), (6, 4), (3, 0), (8, 4), (7, 0), (9, 4)] (by kernel_rfl) (by kernel_rfl) (fun _ _ _ _ _ h => h) (⟨H.out.1.get (j := 1) rfl, H.out.1.get (j := 3) rfl⟩) ?_
    iterate 6 (refine Text.purek rfl rfl (fun K hK => ⟨_, fun w' => by go_simp <;> rfl, ?_⟩); go_simp; refine hK _ ?_; clear hK K)
    (refine Text.heldk rfl rfl (fun K hK => ⟨_, fun w' hw' => by go_simp <;> rfl, ?_⟩); go_simp; refine hK _ ?_; clear hK K)
    (refine Text.purek rfl rfl (fun K hK => ⟨_, fun w' => by go_simp <;> rfl, ?_⟩); go_simp; refine hK _ ?_; clear hK K)
    (refine Text.heldk rfl rfl (fun K hK => ⟨_, fun w' hw' => by go_simp <;> rfl, ?_⟩); go_simp; refine hK _ ?_; clear hK K)
    (refine Text.purek rfl rfl (fun K hK => ⟨_, fun w' => by go_simp <;> rfl, ?_⟩); go_simp; refine hK _ ?_; clear hK K)
    refine Text.done ?_
    go_wp2_with fail
    go_ret2
    exact ⟨⟨_, rfl⟩, (Below.refl _ _).drew⟩
  · subst h0
    rw [endR, if_pos rfl]
    by_cases hlt : off < n
    · rw [if_pos hlt]
      go_enter Tryz.func73, Tryz.ntmps73
      go_wp2_with fail
      refine Text.wp_region_text (fun w' => w'.cell? ⟨g, 0, none⟩ = some (.slice A n c) ∧ w'.cell? ⟨g, 1, none⟩ = some (.int .i64 (off : Int))) [(0, 4), (1, 4), (2, 4), (4, 4), (5, 4), (6, 4), (3, 0), (7, 0), (8, 4), (9, 4)] (by kernel_rfl) (by kernel_rfl) (fun _ _ _ _ _ h => h) (⟨H.out.1.get (j := 0) rfl, H.out.1.get (j := 1) rfl⟩) ?_
      iterate 6 (refine Text.purek rfl rfl (fun K hK => ⟨_, fun w' => by go_simp <;> rfl, ?_⟩); go_simp; refine hK _ ?_; clear hK K)
      iterate 2 (refine Text.heldk rfl rfl (fun K hK => ⟨_, fun w' hw' => by go_simp <;> rfl, ?_⟩); go_simp; refine hK _ ?_; clear hK K)
      iterate 2 (refine Text.purek rfl rfl (fun K hK => ⟨_, fun w' => by go_simp <;> rfl, ?_⟩); go_simp; refine hK _ ?_; clear hK K)
      refine Text.done ?_
      have q1 : w.drew.cell? ⟨g, 1, none⟩ = some (.int .i64 (off : Int)) := q1
      go_wp2_with fail
      go_ret2
      exact ⟨⟨_, rfl⟩, (Below.refl _ _).drew⟩
    · rw [if_neg hlt]
      go_enter Tryz.func73, Tryz.ntmps73
      go_wp2_with fail
      refine Text.wp_region_text (fun w' => w'.cell? ⟨g, 0, none⟩ = some (.slice A n c) ∧ w'.cell? ⟨g, 1, none⟩ = some (.int .i64 (off : Int))) [(0, 4), (1, 4), (2, 4), (4, 4), (5, 4), (6, 4), (3, 0), (7, 0), (8, 4), (9, 4)] (by kernel_rfl) (by kernel_rfl) (fun _ _ _ _ _ h => h) (⟨H.out.1.get (j := 0) rfl, H.out.1.get (j := 1) rfl⟩) ?_
      iterate 6 (refine Text.purek rfl rfl (fun K hK => ⟨_, fun w' => by go_simp <;> rfl, ?_⟩); go_simp; refine hK _ ?_; clear hK K)
      iterate 2 (refine Text.heldk rfl rfl (fun K hK => ⟨_, fun w' hw' => by go_simp <;> rfl, ?_⟩); go_simp; refine hK _ ?_; clear hK K)
      iterate 2 (refine Text.purek rfl rfl (fun K hK => ⟨_, fun w' => by go_simp <;> rfl, ?_⟩); go_simp; refine hK _ ?_; clear hK K)
      refine Text.done ?_
      have q1 : w.drew.cell? ⟨g, 1, none⟩ = some (.int .i64 (off : Int)) := q1
      go_wp2_with fail
      go_ret2
      exact ⟨⟨_, rfl⟩, (Below.refl _ _).drew⟩
theorem bldRd (w : World) (A : Option Addr) (n c : Nat) : (Instr.build 136 #[(0, .slice A n c)]).run Tryz.prog w = .ok (.agg [.slice A n c, .int .i64 0, .int .i64 0, .int .i64 0].toArray) w := by kernel_rfl
/-- The bytes lie in a block of bytes. -/
def RdT (w : World) (A : Option Addr) : Prop := ∀ a, A = some a → ∃ l, BL w a.block 5 l
theorem rdT_own {w : World} {base n c : Nat} {A : Option Addr} {l : List Value} (h : w.ownsRow base 5 1 (.slice A n c) n l) : RdT w A := fun a ha => by
  rcases (RW.of_own h).1.2 with ⟨e, _⟩ | ⟨g, o, c, cs, e, hb, _⟩
  · cases e; cases ha
  · cases e; cases ha; exact ⟨cs, hb⟩
theorem newReader_any (w : World) (A : Option Addr) (n c : Nat) (b : List UInt8) (h : BS w A n c b) :
    Calls Tryz.prog 69 #[.slice A n c] w fun e w' => ∃ g A2 c2, e = .returned (.pointer (some ⟨g, 0, none⟩)) ∧ w.heap.size ≤ g ∧ RdS w' g A2 n c2 b ⟨0, 0, 0⟩ ∧ RdT w' A2 ∧ Below w.heap.size w w' := by
  have H := Lib.hid h
  have hn : n ≤ 140737488355328 := by have := h.2.2.1; unfold lim at this; exact this
  clear h
  go_enter Tryz.func69, Tryz.ntmps69
  go_wp2_with (first
    | ((with_reducible show wpList _ _ _ (⟨some 3, _, _, _, _, _⟩ :: _) _ _); refine wpList_bslice _ rfl 24 5 0 _ rfl #[] (by rw [List.map_toArray]; rfl) [] (bsl0 _) ?_; intro w1 y1 y2 y3; have HG1 := Lib.hid y1; have HB1 := Lib.hid y2; clear y1 y2 y3)
    | ((with_reducible show wpList _ _ _ (⟨some 5, _, _, _, _, _⟩ :: _) _ _); refine wpList_appB _ rfl (.tmp 3) (.tmp 4) rfl w.heap.size _ 0 [] rfl (BL.own HG1.out (Nat.le_refl _) rfl (by decide)) A n c b rfl (H.out.kept HB1.out) (by omega) HB1.out.size ?_; intro v2 w2 hp; have hown := hp.own; rw [Nat.zero_add, List.nil_append] at hown; obtain ⟨A2, c2, ev, hb2⟩ := BS.of_own hown (by unfold lim; omega); subst ev; have HTY := Lib.hid (rdT_own hown); have HB2 := Lib.hid hb2; have HP := Lib.hid (hp.below (BL.own HG1.out (Nat.le_refl _) rfl (by decide)) HB1.out (Nat.le_refl _) HB1.out.size); clear hp hown hb2)
    | ((with_reducible show wpList _ _ _ (⟨some 6, _, _, _, _, _⟩ :: _) _ _); refine wpList_build _ rfl 136 _ rfl #[(0, .slice A2 n c2)] (by rw [List.map_toArray]; rfl) _ (bldRd _ _ _ _) ?_)
    | ((with_reducible show wpList _ _ _ (⟨some 7, _, _, _, _, _⟩ :: _) _ _); refine wpList_box _ rfl 136 (.tmp 6) rfl [.slice A2 n c2, .int .i64 0, .int .i64 0, .int .i64 0] rfl ?_; intro w3 y1 y2 y3; have HG3 := Lib.hid y1; have HB3 := Lib.hid y2; clear y1 y2 y3))
  go_ret
  exact ⟨_, A2, c2, rfl, HP.out.size, ⟨⟨HG3.out, HB2.out.kept HB3.out, HB2.out.far_new (fun k e => Nat.le_of_eq e.symm)⟩, Nat.zero_le _⟩, fun a e => (let ⟨l, hl⟩ := HTY.out a e; ⟨l, hl.kept HB3.out⟩), below_thenB HP.out HP.out.size HB3.out⟩
end
end Go.Proofs.YtgoefpbicohkfaaGreatDoor
/- General laws out of texts of chapter 49 (printed by bin/mk47b.py out of bin/g8.txt). -/
namespace Go.Proofs.YtgoefpbicohkfaaGreatDoor
open Go Go.ChangeShapes Go.WideShapes Go.ChangeAt Go.RowKit Go.ChangeMaps Gf Sha
section
theorem LS.len_le {α : Type} {R : Rdg α} {s b n c : Nat} {w : World} {A : Option Addr} {L : List α} (h : LS R s b w A n c L) : n * b ≤ 140737488355328 := by have := h.2.2.1; unfold lim at this; exact this
theorem LS.str_at {w w' : World} {A : Option Addr} {n c : Nat} {m : List (List UInt8)} (h : LS rStr 1 16 w A n c m) (hb : Below w.heap.size w w') {k : Nat} (hk : k < n) :
    ∃ x g o, m[k]? = some x ∧ A = some ⟨g, o, none⟩ ∧ w'.cell? ⟨g, o + k, none⟩ = some (.string (strB x)) := by
  obtain ⟨x, g, o, cs, hx, e, hat, rfl, _⟩ := h.at_ stay_str hb hk
  refine ⟨x, g, o, hx, e, ?_⟩
  rw [Nat.mul_one] at hat
  exact hat 0 _ rfl
theorem LS.str_ok {w : World} {A : Option Addr} {n c : Nat} {m : List (List UInt8)} (h : LS rStr 1 16 w A n c m) {k : Nat} {x : List UInt8} (hk : m[k]? = some x) : x.length ≤ reachBytes := by
  have hl : k < n := by
    have := (List.getElem?_eq_some_iff.1 hk).1
    rw [h.1] at this; exact this
  obtain ⟨y, g, o, cs, hx, e, hat, rfl, h2⟩ := h.at_ stay_str (Below.refl _ _) hl
  rw [hk] at hx
  cases hx
  exact h2
theorem gR_some {m : List (List UInt8)} {k : Nat} {x : List UInt8} (h : m[k]? = some x) : gR m k = x := by rw [gR, List.getD_eq_getElem?_getD, h]; rfl
theorem geq_text {P : Program} {x y : List UInt8} {b : Bool} (h : Op.bytesLess (strB y).toList (strB x).toList = b) {w : World} : Sem.run P (binOp BinOp.geq 9 (Value.string (strB y)) (Value.string (strB x))) w = .ok (.bool (!b)) w := by subst h; rfl
def hasB (m : List (List UInt8)) (s : List UInt8) : Bool := m.any fun x => x == s
end
section
variable {α : Type} {l : List α} {p : α → Bool} {k : Nat} {x : α}
theorem take_next (h : l[k]? = some x) : l.take (k + 1) = l.take k ++ [x] := by rw [List.take_add_one, h]; rfl
theorem take_end (h : l.length = k) : l.take k = l := by rw [← h, List.take_length]
theorem filt_step (h : l[k]? = some x) : (l.take (k + 1)).filter p = (l.take k).filter p ++ (if p x then [x] else []) := by
  rw [take_next h, List.filter_append]
  congr 1
  by_cases hp : p x = true
  · simp [hp]
  · simp [hp]
end
section
theorem filtmap_step {α β : Type} {l : List α} {p : α → Bool} {f : α → β} {k : Nat} {x : α} (h : l[k]? = some x) : ((l.take (k + 1)).filter p).map f = ((l.take k).filter p).map f ++ (if p x then [f x] else []) := by
  rw [filt_step h, List.map_append]
  by_cases hp : p x = true
  · simp [hp]
  · simp [hp]
theorem results_at2 {P : Program} (w : World) {t : TypeId} {n : Nat} {fn : Func} {p q : Tmp} (hf : fn.results = #[.cell p t, .tmp q]) (h : Agg P t n = true) {tmps : Array Value} {g o : Nat} {ms : List Value} (hp : tmps.getD p undef = .pointer (some ⟨g, o, none⟩)) (hm : At w g o ms) (hn : ms.length = n) :
    (results fn tmps).run P w = .ok (.tuple #[.agg ms.toArray, tmps.getD q undef]) w := by
  have hp' : tmps[p]?.getD undef = .pointer (some ⟨g, o, none⟩) := by simpa using hp
  simp [results, hf, hp', asAddr, run_loadVar_at w h hm hn]
theorem keyS (x : List UInt8) (hx : x.length ≤ 9223372036854775807) : ∃ lx, keyOf Tryz.prog 9 (usC x) = some lx := by
  have hm : (strB x).size ≤ maxLen := by rw [strB_size]; exact hx
  unfold keyOf
  rw [Tryz.underlying9]
  simp [mapKey, usC, Tryz.underlying9, hm]
theorem reach_key {x : List UInt8} (h : x.length ≤ reachBytes) : x.length ≤ 9223372036854775807 := by unfold reachBytes at h; omega
end
section
variable {κ : Type} {P : Program} (w : World) {ops : Array Oper} {rest : List Oper} {o : Oper} {a : Act} {Q : Exit → Act → World → Prop} {enc : κ → Value}
theorem wpList_lookGv (hg : o.guard = none) (m x : Operand) (t k e : TypeId) (hop : o.op = .lookup t m x false) (K : Go.Maps.Keyed P k) (ht : P.underlying t = some (.map k e)) (z : Value) (hz : (P.info? e).map (·.zero) = some (some z))
    (b : Nat) (g : κ → Value) (hm : a.eval m = .map (some b)) (hb : MG P k enc z w b g) (xv : κ) (hx : a.eval x = enc xv) (hk : ∃ lx, keyOf P k (enc xv) = some lx) (v : Value) (hv : g xv = v)
    (h : wpList P ops Q rest (a.put o.dst v) w) : wpList P ops Q (o :: rest) a w :=
  wpList_lookG w hg m x t k e hop K ht z hz b g hm hb xv hx hk (by rw [hv]; exact h)
theorem wpList_lookGgv (hw : Region.wanted o (yielded ops a.tmps) = true) (m x : Operand) (t k e : TypeId) (hop : o.op = .lookup t m x false) (K : Go.Maps.Keyed P k) (ht : P.underlying t = some (.map k e)) (z : Value) (hz : (P.info? e).map (·.zero) = some (some z))
    (b : Nat) (g : κ → Value) (hm : a.eval m = .map (some b)) (hb : MG P k enc z w b g) (xv : κ) (hx : a.eval x = enc xv) (hk : ∃ lx, keyOf P k (enc xv) = some lx) (v : Value) (hv : g xv = v)
    (h : wpList P ops Q rest (a.put o.dst v) w) : wpList P ops Q (o :: rest) a w :=
  wpList_lookGg w hw m x t k e hop K ht z hz b g hm hb xv hx hk (by rw [hv]; exact h)
theorem wpList_lookokFv (hg : o.guard = none) (m x : Operand) (t k e : TypeId) (hop : o.op = .lookup t m x true) (K : Go.Maps.Keyed P k) (ht : P.underlying t = some (.map k e)) (z : Value) (hz : (P.info? e).map (·.zero) = some (some z))
    (b : Nat) (f : κ → Option Value) (hm : a.eval m = .map (some b)) (hb : MF P k enc w b f) (xv : κ) (hx : a.eval x = enc xv) (hk : ∃ lx, keyOf P k (enc xv) = some lx) (v : Value) (c : Bool) (hv : (f xv).getD z = v) (hc : (f xv).isSome = c)
    (h : wpList P ops Q rest (a.put o.dst (.tuple #[v, .bool c])) w) : wpList P ops Q (o :: rest) a w :=
  wpList_lookokF w hg m x t k e hop K ht z hz b f hm hb xv hx hk (by rw [hv, hc]; exact h)
end
section
theorem boolZero : (Tryz.prog.info? 4).map (·.zero) = some (some (.bool false)) := by kernel_rfl
theorem intZero : (Tryz.prog.info? 3).map (·.zero) = some (some (.int .i64 0)) := by kernel_rfl
theorem mapSB : Tryz.prog.underlying 46 = some (.map 9 4) := Tryz.underlying46
theorem one_val (vs : List Value) (h : vs.all (fun v => v.oneCell') = true) : ∀ v ∈ vs, v.oneCell' = true := fun v hv => by
  rw [List.all_eq_true] at h; exact h v hv
/-- An int's range. -/
def wfI (z : Int) : Prop := (Lit.int .i64 z).wf = true
theorem BL.ne {w : World} {g g' : Nat} {t t' : TypeId} {l l' : List Value} (h : BL w g t l) (h' : BL w g' t' l') (ht : t ≠ t') : g ≠ g' := fun e => by
  subst e
  exact ht (h.ty h')
end
section
variable {w w' w1 : World} {te t : TypeId} {s n g : Nat} {v v' : Value} {l cs xs : List Value}
theorem RW.ne_bl (h : RW w te s v n l) (hb : BL w g t cs) (ht : t ≠ te) : ∀ b, v.ownBlock = some b → b ≠ g := fun b hv e => by
  subst e
  obtain ⟨cs', h1⟩ := h.ty hv
  exact ht (hb.ty h1)
theorem AppR.bl {m : Nat} (ap : AppR w te s v n m l xs v' w') (h : RW w te s v n l) (hb : BL w g t cs) (ht : t ≠ te) : BL w' g t cs :=
  ap.kp.bl hb (fun e => h.ne_bl hb ht g e rfl)
theorem OL.kp {α : Type} {R : Rdg α} {w0 : World} {L : List α} {S : Nat → Prop} (h : OL R s te w0 w v L) (hk : Kp S w w') (hn : ∀ b, v.ownBlock = some b → ¬ S b) : OL R s te w0 w' v L :=
  let ⟨css, h1, h2, h3, h4, h5⟩ := h; ⟨css, h1, h2, h3, h4.kp hk hn, h5⟩
end
section
theorem RW.tyb {w : World} {te : TypeId} {s n : Nat} {A : Option Addr} {k c : Nat} {l : List Value} (h : RW w te s (.slice A k c) n l) {a : Addr} (ha : A = some a) : ∃ cs, BL w a.block te cs := by
  rcases h.2 with ⟨e, _⟩ | ⟨g, o, c', cs, e, hb', r⟩
  · cases e; cases ha
  · cases e; cases ha; exact ⟨cs, hb'⟩
end
section
variable {α : Type} {R : Rdg α} {s b n c m : Nat} {w w' : World} {A : Option Addr} {L : List α} {P : Program} {te : TypeId} {v : Value} {l : List Value}
/-- The cells of a list. -/
theorem LS.css (h : LS R s b w A n c L) (hlen : ∀ cs x, R w cs x → cs.length = s) : ∃ css : List (List Value), css.length = L.length ∧ (∀ cs ∈ css, cs.length = s) ∧ (∀ k (h : k < L.length) (h' : k < css.length), R w css[k] L[k]) ∧ ∀ g o, A = some ⟨g, o, none⟩ → At w g o css.flatten := by
  have key : ∀ k, k ≤ L.length → ∃ css : List (List Value), css.length = k ∧ (∀ cs ∈ css, cs.length = s) ∧ (∀ j (h : j < L.length) (h' : j < css.length), R w css[j] L[j]) ∧ ∀ g o, A = some ⟨g, o, none⟩ → At w g o css.flatten := by
    intro k
    induction k with
    | zero => intro _; exact ⟨[], rfl, (fun _ h => by cases h), (fun _ _ h => absurd h (by simp)), fun g o _ j v hj => by simp at hj⟩
    | succ k ih =>
      intro hk
      obtain ⟨css, h1, h2, h3, h4⟩ := ih (by omega)
      obtain ⟨g, o, cs, e, h5, h6⟩ := h.2.2.2 k (by omega)
      refine ⟨css ++ [cs], by simp [h1], fun c hc => ?_, fun j hj hj' => ?_, fun g' o' e' => ?_⟩
      · rcases List.mem_append.1 hc with h | h
        · exact h2 c h
        · rw [List.mem_singleton.1 h]; exact hlen _ _ h6
      · by_cases hlt : j < css.length
        · rw [List.getElem_append_left hlt]; exact h3 j hj hlt
        · have e9 : j = k := by simp at hj'; omega
          subst e9
          rw [List.getElem_append_right (by omega)]
          simp only [h1, Nat.sub_self, List.getElem_cons_zero]
          exact h6
      · rw [e] at e'
        cases e'
        have hf := flatten_len h2
        have h7 := h4 g o e
        rw [List.flatten_append, List.flatten_cons, List.flatten_nil, List.append_nil]
        intro j u hj
        by_cases hlt : j < css.flatten.length
        · rw [List.getElem?_append_left hlt] at hj; exact h7 j u hj
        · rw [List.getElem?_append_right (by omega)] at hj
          have h8 := h5 (j - css.flatten.length) u hj
          rw [show o + j = o + k * s + (j - css.flatten.length) by rw [hf, h1] at hlt ⊢; omega]
          exact h8
  exact key _ (Nat.le_refl _)
theorem LS.src (h : LS R s b w A n c L) (hlen : ∀ cs x, R w cs x → cs.length = s) (hone : ∀ cs x, R w cs x → ∀ u ∈ cs, u.oneCell' = true) {tx e' : TypeId} (hk : P.underlying tx = some (.slice e')) :
    ∃ css : List (List Value), css.length = L.length ∧ (∀ cs ∈ css, cs.length = s) ∧ (∀ k (h : k < L.length) (h' : k < css.length), R w css[k] L[k]) ∧ ∀ w', Below w.heap.size w w' → Src P s tx (.slice A n c) n css.flatten w' := by
  obtain ⟨css, h1, h2, h3, h4⟩ := h.css hlen
  have hfl : css.flatten.length = n * s := by rw [flatten_len h2, h1, h.1]
  have h1c : ∀ u ∈ css.flatten, u.oneCell' = true := fun u hu => by
    obtain ⟨cs, hcs, hu⟩ := List.mem_flatten.1 hu
    obtain ⟨k, hk⟩ := List.mem_iff_getElem?.1 hcs
    obtain ⟨hk1, hk2⟩ := List.getElem?_eq_some_iff.1 hk
    have h9 := h3 k (by omega) hk1
    rw [hk2] at h9
    exact hone _ _ h9 u hu
  refine ⟨css, h1, h2, h3, fun w' hbel => ?_⟩
  cases A with
  | none =>
    have h0 : n = 0 := by
      rcases Nat.eq_zero_or_pos n with h9 | h9
      · exact h9
      · obtain ⟨g, o, cs, e, _⟩ := h.2.2.2 0 (by rw [h.1]; exact h9)
        cases e
    subst h0
    have : css.flatten = [] := List.eq_nil_of_length_eq_zero (by omega)
    rw [this]
    exact Src.ofNil w' hk c
  | some a =>
    refine Src.ofSlice w' hk a n c _ hfl (fun j u hj => ?_) h1c
    have hn : 0 < n := by
      rcases Nat.eq_zero_or_pos n with h9 | h9
      · subst h9
        have : css.flatten = [] := List.eq_nil_of_length_eq_zero (by omega)
        rw [this] at hj; simp at hj
      · exact h9
    obtain ⟨g, o, cs, e, _⟩ := h.2.2.2 0 (by rw [h.1]; exact hn)
    cases e
    rw [Addr.add_lit]
    exact (h4 g o rfl).kept hbel j u hj
theorem run_appS {t tx rt : TypeId} {i : TypeInfo} {z : Value} (ht : P.underlying t = some (.slice te)) (hi : P.info? te = some i) (hz : i.zero = some z) (hs : i.size = s) (hzs : z.cells.size = s) (h : RW w te s v n l) {x : Value} {xs : List Value}
    (hx : Src P s tx x m xs w) (hb : (n + m) * i.bytes ≤ 140737488355328) (hn : n + m ≤ 140737488355328) :
    ∃ v' w', (Builtin.append_ #[t, tx] rt #[v, x]).run P w = .ok v' w' ∧ AppR w te s v n m l xs v' w' := by
  rcases Nat.eq_zero_or_pos m with h0 | hm
  · subst h0
    have hxs : xs = [] := List.eq_nil_of_length_eq_zero (by have := hx.newsLen; omega)
    subst hxs
    have hap : AppR w te s v n 0 l [] v w := ⟨by rw [Nat.add_zero, List.append_nil]; exact h, Kp.of_below (Below.refl _ _), fun b hb => .inl hb⟩
    rcases h.2 with ⟨rfl, rfl⟩ | ⟨g, o, c, cs, rfl, hbl, h1, h2, h3, h4⟩
    · refine ⟨_, w, ?_, hap⟩
      rcases hx.kind with ⟨e', hk⟩ | hk <;> simp [Builtin.append_, run_underlying ht, run_underlying hk, sizeOf, typeInfo, hi, hs, hx.len, hx.cells, Result.andThen]
    · refine ⟨_, w, ?_, hap⟩
      have hx' : Src P i.size tx x 0 [] w := by rw [hs]; exact hx
      have h9 := run_append_room_src (P := P) w t tx rt te i ht hi g o n c x 0 [] hx' (by omega) (fun j hj => absurd hj (by simp)) (fun j hj => absurd hj (by simp))
      exact h9
  · exact run_appRW ht hi hz hs hzs h hx hm hb hn
end
section
variable {P : Program} (w : World) {ops : Array Oper} {rest : List Oper} {o : Oper} {a : Act} {Q : Exit → Act → World → Prop} {K' : Act → World → Prop}
/-- append(r, x...). -/
theorem wp_appX (sl x : Operand) (t te : TypeId) (s : Nat) (i : TypeInfo) (z : Value) (hop : o.op = .call { callee := .builtin .append, args := #[sl, x], argTypes := #[t, t] })
    (ht : P.underlying t = some (.slice te)) (hi : P.info? te = some i) (hz : i.zero = some z) (hs : i.size = s) (hzs : z.cells.size = s) (v : Value) (n : Nat) (l : List Value) (hv : a.eval sl = v) (h : RW w te s v n l)
    (xv : Value) (m : Nat) (xs : List Value) (hx : a.eval x = xv) (hsrc : Src P s t xv m xs w) (hb : (n + m) * i.bytes ≤ 140737488355328) (hn : n + m ≤ 140737488355328)
    (hK : ∀ v' w', AppR w te s v n m l xs v' w' → K' (a.put o.dst v') w') : o.wp P a w K' Q := by
  obtain ⟨v', w', hr, h2⟩ := run_appS (rt := o.type) ht hi hz hs hzs h hsrc hb hn
  unfold Oper.wp execOp
  simp only [hop, resolve, invoke, builtin, Sem.run_bind, Sem.run_pure, Result.andThen_ok, List.map_toArray, List.map_cons, List.map_nil, hv, hx, hr]
  exact hK _ _ h2
theorem wpList_appX (hg : o.guard = none) (sl x : Operand) (t te : TypeId) (s : Nat) (i : TypeInfo) (z : Value) (hop : o.op = .call { callee := .builtin .append, args := #[sl, x], argTypes := #[t, t] })
    (ht : P.underlying t = some (.slice te)) (hi : P.info? te = some i) (hz : i.zero = some z) (hs : i.size = s) (hzs : z.cells.size = s) (v : Value) (n : Nat) (l : List Value) (hv : a.eval sl = v) (h : RW w te s v n l)
    (xv : Value) (m : Nat) (xs : List Value) (hx : a.eval x = xv) (hsrc : Src P s t xv m xs w) (hb : (n + m) * i.bytes ≤ 140737488355328) (hn : n + m ≤ 140737488355328)
    (hK : ∀ v' w', AppR w te s v n m l xs v' w' → wpList P ops Q rest (a.put o.dst v') w') : wpList P ops Q (o :: rest) a w :=
  wpList_plain hg fun _ hK' => wp_appX w sl x t te s i z hop ht hi hz hs hzs v n l hv h xv m xs hx hsrc hb hn (fun v' w' h2 => hK' _ _ (hK v' w' h2))
end
section
/-- A list with another one behind it. -/
theorem OL.app {α : Type} {R : Rdg α} {s m : Nat} {te : TypeId} {w0 w w' : World} {v v' : Value} {L M : List α} {n : Nat} {css : List (List Value)} (hl : css.length = L.length) (h2 : ∀ cs ∈ css, cs.length = s) (h3 : ∀ k (h : k < L.length) (h' : k < css.length), R w0 css[k] L[k]) (h5 : ∀ b, v.ownBlock = some b → w0.heap.size ≤ b) (hn : L.length = n)
    {dss : List (List Value)} (kl : dss.length = M.length) (k2 : ∀ cs ∈ dss, cs.length = s) (k3 : ∀ k (h : k < M.length) (h' : k < dss.length), R w0 dss[k] M[k]) (km : M.length = m) (hw : w0.heap.size ≤ w.heap.size) (ap : AppR w te s v n m css.flatten dss.flatten v' w') : OL R s te w0 w' v' (L ++ M) := by
  refine ⟨css ++ dss, by simp [hl, kl], fun cs hcs => (List.mem_append.1 hcs).elim (h2 cs) (k2 cs), fun k hk hk' => ?_, ?_, fun b hb => (ap.own b hb).elim (h5 b) (fun h => Nat.le_trans hw h)⟩
  · by_cases hlt : k < L.length
    · rw [List.getElem_append_left (by omega), List.getElem_append_left hlt]; exact h3 k hlt (by omega)
    · rw [List.getElem_append_right (by omega), List.getElem_append_right (by omega)]
      simp only [hl]
      exact k3 _ (by rw [List.length_append] at hk; omega) _
  · have := ap.row
    rw [List.flatten_append, List.length_append, hn, km]
    exact this
theorem len_str {w : World} : ∀ cs x, rStr w cs x → cs.length = 1 := fun _ _ h => by rw [h.1]; rfl
theorem ones_str {w : World} : ∀ cs x, rStr w cs x → ∀ u ∈ cs, u.oneCell' = true := fun _ _ h => by rw [h.1]; exact one_val _ rfl
theorem LS.none_len {α : Type} {R : Rdg α} {s b n c : Nat} {w : World} {L : List α} (h : LS R s b w none n c L) : n = 0 := by
  rcases Nat.eq_zero_or_pos n with h9 | h9
  · exact h9
  · obtain ⟨g, o, cs, e, _⟩ := h.2.2.2 0 (by rw [h.1]; exact h9)
    cases e
/-- A list in a block of its own whose parts read now. -/
def OT {α : Type} (R : Rdg α) (s : Nat) (te : TypeId) (base : Nat) (w : World) (v : Value) (L : List α) : Prop :=
  ∃ css : List (List Value), css.length = L.length ∧ (∀ cs ∈ css, cs.length = s) ∧ (∀ k (h : k < L.length) (h' : k < css.length), R w css[k] L[k]) ∧ RW w te s v L.length css.flatten ∧ ∀ b, v.ownBlock = some b → base ≤ b
end
section
variable {α : Type} {R : Rdg α} {s base : Nat} {te : TypeId} {w w' : World} {v : Value} {L : List α}
theorem OT.kept (h : OT R s te base w v L) (hR : Stay R) (hb : Below w.heap.size w w') : OT R s te base w' v L :=
  let ⟨css, h1, h2, h3, h4, h5⟩ := h; ⟨css, h1, h2, fun k hk hk' => hR _ _ _ _ (h3 k hk hk') hb, h4.kept hb, h5⟩
theorem OT.of_ol {w0 : World} (h : OL R s te w0 w v L) (hR : Stay R) (hb : Below w0.heap.size w0 w) : OT R s te w0.heap.size w v L :=
  let ⟨css, h1, h2, h3, h4, h5⟩ := h; ⟨css, h1, h2, fun k hk hk' => hR _ _ _ _ (h3 k hk hk') hb, h4, h5⟩
theorem OT.ls {b : Nat} (h : OT R s te base w v L) (hl : L.length * b ≤ lim) : ∃ A c, v = .slice A L.length c ∧ LS R s b w A L.length c L := by
  obtain ⟨css, h1, h2, h3, h4, h5⟩ := h
  obtain ⟨A, c, rfl, hc⟩ := h4.form
  refine ⟨A, c, rfl, rfl, hc, hl, fun k hk => ?_⟩
  obtain ⟨g, o, c', e, _, hat⟩ := h4.at_ (by omega)
  cases e
  have hk' : k < css.length := by omega
  exact ⟨g, o, css[k], rfl, at_flatten h2 hat hk', h3 k hk hk'⟩
theorem LS.mono {R' : Rdg α} {b n c : Nat} {A : Option Addr} (h : LS R s b w A n c L) (hR : ∀ cs x, R w cs x → R' w cs x) : LS R' s b w A n c L :=
  ⟨h.1, h.2.1, h.2.2.1, fun k hk => let ⟨g, o, cs, e, h1, h2⟩ := h.2.2.2 k hk; ⟨g, o, cs, e, h1, hR _ _ h2⟩⟩
end
section
theorem OT.kp {α : Type} {R : Rdg α} {s base : Nat} {te : TypeId} {w w' : World} {v : Value} {L : List α} {S : Nat → Prop} (h : OT R s te base w v L) (hk : Kp S w w') (hn : ∀ b, v.ownBlock = some b → ¬ S b) (hR : ∀ cs x, R w cs x → R w' cs x) : OT R s te base w' v L :=
  let ⟨css, h1, h2, h3, h4, h5⟩ := h; ⟨css, h1, h2, fun k hk hk' => hR _ _ (h3 k hk hk'), h4.kp hk hn, h5⟩
theorem OT.base {α : Type} {R : Rdg α} {s base base' : Nat} {te : TypeId} {w : World} {v : Value} {L : List α} (h : OT R s te base w v L) (hb : base' ≤ base) : OT R s te base' w v L :=
  let ⟨css, h1, h2, h3, h4, h5⟩ := h; ⟨css, h1, h2, h3, h4, fun b e => Nat.le_trans hb (h5 b e)⟩
theorem OT.of {α : Type} {R : Rdg α} {s base : Nat} {te : TypeId} {w0 w : World} {v : Value} {L : List α} (h : OL R s te w0 w v L) (hR : Stay R) (hb : Below w0.heap.size w0 w) (hbase : base ≤ w0.heap.size) : OT R s te base w v L := (OT.of_ol h hR hb).base hbase
theorem OT.own {α : Type} {R : Rdg α} {s base : Nat} {te : TypeId} {w : World} {v : Value} {L : List α} (h : OT R s te base w v L) : ∀ b, v.ownBlock = some b → base ≤ b := let ⟨_, _, _, _, _, h5⟩ := h; h5
theorem OLn.mono {α : Type} {R R' : Rdg α} {s base : Nat} {te : TypeId} {w : World} {v : Value} {L : List α} (h : OLn R s te base w v L) (hR : ∀ w cs x, R w cs x → R' w cs x) : OLn R' s te base w v L :=
  let ⟨css, h1, h2, h3, h4, h5⟩ := h; ⟨css, h1, h2, fun w' hk k h h' => hR _ _ _ (h3 w' hk k h h'), h4, h5⟩
theorem OLn.row {α : Type} {R : Rdg α} {s base : Nat} {te : TypeId} {w : World} {v : Value} {L : List α} (h : OLn R s te base w v L) : ∃ cs, RW w te s v L.length cs := let ⟨_, _, _, _, h4, _⟩ := h; ⟨_, h4⟩
theorem strB_app (a b : List UInt8) : strB a ++ strB b = strB (a ++ b) := by
  rw [ByteArray.ext_iff]
  simp [strB, ByteArray.data_append]
theorem strB_nil : ({ data := #[] } : ByteArray) = strB [] := rfl
theorem cat_ok (a b : List UInt8) (h : a.length + b.length ≤ 9223372036854775807) : ¬ 9223372036854775807 < (strB a).size + (strB b).size := by
  rw [strB_size, strB_size]; omega
def wdK (c : UInt8) (k : Nat) : List UInt8 := List.replicate k c
theorem wdK_succ (c : UInt8) (k : Nat) : wdK c k ++ [c] = wdK c (k + 1) := by unfold wdK; rw [List.replicate_succ']
theorem wdK_len (c : UInt8) (k : Nat) : (wdK c k).length = k := by simp [wdK]
theorem bslU1 (c : UInt8) (w : World) : (Instr.buildSlice 24 1 #[(0, B c)]).run Tryz.prog w = .ok (.slice (some ⟨w.heap.size, 0, none⟩) 1 1) (w.alloc (.cells ([c].map B).toArray 5)) := by kernel_rfl
theorem hasB_step {m : List (List UInt8)} {k : Nat} {x : List UInt8} (h : m[k]? = some x) (y : List UInt8) : hasB (m.take (k + 1)) y = (hasB (m.take k) y || x == y) := by
  rw [hasB, hasB, take_next h, List.any_append]; simp
end
end Go.Proofs.YtgoefpbicohkfaaGreatDoor
