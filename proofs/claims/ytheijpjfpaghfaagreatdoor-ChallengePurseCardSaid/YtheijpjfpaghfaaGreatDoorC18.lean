/- Several texts in one: Nm, Sp3, Ak0, Ak1, Rtk. -/
import Derived.Test.YtheijpjfpaghfaaGreatDoorC17
import Derived.Test.YtheijpjfpaghfaaGreatDoorC15
import Derived.Test.YtheijpjfpaghfaaGreatDoorC14
import Derived.Test.YtheijpjfpaghfaaGreatDoorC13
import Derived.Deep.DeepCutAuto
/- Contracts of name and keys. -/
namespace Go.Proofs.YtheijpjfpaghfaaGreatDoor
open Go Go.RowKit Gf

def nameL (x y : UInt8) : List UInt8 := x :: y :: List.replicate 30 0
set_option maxRecDepth 100000 in
theorem name_any (x y : UInt8) (w : World) : Calls Tryz.prog 23 #[B x, B y] w fun e w' => e = .returned (.string (strB (nameL x y))) ∧ Below w.heap.size w w' := by
 go_enter Tryz.func23, Tryz.ntmps23
 go_wp2_with (first
  | ((with_reducible show OpW 6); refine wpList_mk _ rfl 22 5 _ _ rfl (B 0) 1 Tryz.underlying22 infoU8 rfl 32 32 _ _ rfl rfl rfl rfl (by omega) (by omega) (by omega) ?_; intro w1 a1 a2 a3; have HG1 := Lib.hid a1; have HB1 := Lib.hid a2; clear a1 a2 a3)
  | ((with_reducible show OpN); refine wpList_store1 _ rfl 5 (.tmp 11) (.tmp 9) rfl (one_size _ (by kernel_rfl)) w.heap.size 0 5 _ (B x) rfl rfl HG1.out rfl rfl (by rw [List.length_replicate]; omega) ?_; intro w2 a1 a2 a3; have HG2 := Lib.hid a1; have HK2 := Lib.hid a2; clear a1 a2 a3)
  | ((with_reducible show OpN); refine wpList_store1 _ rfl 5 (.tmp 12) (.tmp 10) rfl (one_size _ (by kernel_rfl)) w.heap.size 1 5 _ (B y) rfl rfl HG2.out rfl rfl (by rw [List.length_set, List.length_replicate]; omega) ?_; intro w3 a1 a2 a3; have HG3 : Hid (BL w3 w.heap.size 5 ((nameL x y).map B)) := Lib.hid a1; have HK3 := Lib.hid a2; have cv := conv_str (BL.bs HG3.out (n := 32) rfl (by decide)); clear a1 a2 a3))
 go_ret
 exact ⟨rfl, (((Kp.of_below (S := fun _ => False) HB1.out).after HK2.out (fun i hi e => by omega)).after HK3.out (fun i hi e => by omega)).below (Nat.le_refl _) (fun _ h => h.elim)⟩

theorem name_at (x y : UInt8) (v : Value) (hv : v = B y) (w : World) : Calls Tryz.prog 23 #[B x, v] w fun e w' => e = .returned (.string (strB (nameL x y))) ∧ Below w.heap.size w w' := by
 subst hv; exact name_any x y w
theorem nm1 : Value.int .u8 1 = B 1 := rfl
theorem nm2 : Value.int .u8 2 = B 2 := rfl
theorem nm3 : Value.int .u8 3 = B 3 := rfl
theorem nm4 : Value.int .u8 4 = B 4 := rfl
theorem nm5 : Value.int .u8 5 = B 5 := rfl
/-- The keys of a byte. -/
def keysK (x : UInt8) : Ky := ⟨nameL x 1, nameL x 2, nameL x 3, nameL x 4, nameL x 5⟩
def kyZ : List Value := [.string (strB []), .string (strB []), .string (strB []), .string (strB []), .string (strB [])]
theorem kyZero : (Tryz.prog.info? 68).map (·.zero) = some (some (.agg kyZ.toArray)) := by kernel_rfl
set_option maxRecDepth 100000 in
theorem keys_any (x : UInt8) (w : World) : Calls Tryz.prog 25 #[B x] w fun e w' => e = .returned (keysK x).val ∧ Below w.heap.size w w' := by
 go_enter Tryz.func25, Tryz.ntmps25
 go_wp2_with (first
  | ((with_reducible show OpW 2); refine wpList_alloc _ rfl 68 rfl kyZ kyZero ?_; intro w1 a1 a2 a3; have HG1 := Lib.hid a1; have HB1 := Lib.hid a2; clear a1 a2 a3)
  | (go_at_call 23; (with_reducible show Calls _ _ _ w1 _); refine (name_at x 1 _ nm1 w1).mono ?_; rintro e w2 ⟨rfl, b⟩; have HB2 := Lib.hid (below_then HB1.out b); have HG2 := Lib.hid (HG1.out.kept b); clear b)
  | (go_at_call 23; (with_reducible show Calls _ _ _ w2 _); refine (name_at x 2 _ nm2 w2).mono ?_; rintro e w3 ⟨rfl, b⟩; have HB3 := Lib.hid (below_then HB2.out b); have HG3 := Lib.hid (HG2.out.kept b); clear b)
  | (go_at_call 23; (with_reducible show Calls _ _ _ w3 _); refine (name_at x 3 _ nm3 w3).mono ?_; rintro e w4 ⟨rfl, b⟩; have HB4 := Lib.hid (below_then HB3.out b); have HG4 := Lib.hid (HG3.out.kept b); clear b)
  | (go_at_call 23; (with_reducible show Calls _ _ _ w4 _); refine (name_at x 4 _ nm4 w4).mono ?_; rintro e w5 ⟨rfl, b⟩; have HB5 := Lib.hid (below_then HB4.out b); have HG5 := Lib.hid (HG4.out.kept b); clear b)
  | (go_at_call 23; (with_reducible show Calls _ _ _ w5 _); refine (name_at x 5 _ nm5 w5).mono ?_; rintro e w6 ⟨rfl, b⟩; have HB6 := Lib.hid (below_then HB5.out b); have HG6 := Lib.hid (HG5.out.kept b); clear b)
  | ((with_reducible show OpN); refine wpList_storev _ rfl 68 (.tmp 2) (.tmp 13) rfl 5 (by kernel_rfl) w.heap.size 0 _ kyZ (keysK x).cells rfl rfl HG6.out rfl (by intro v hv; simp only [Ky.cells, List.mem_cons, List.not_mem_nil, or_false] at hv; rcases hv with rfl | rfl | rfl | rfl | rfl <;> rfl) (by decide) ?_; intro w7 a1 a2 a3; have HG7 := Lib.hid a1; have HK7 := Lib.hid a2; clear a1 a2 a3))
 (try simp only [Exit.inBlock, Exit.then])
 exact bodyPost_ret (results_at w7 Tryz.results25 (n := 5) (by kernel_rfl) (g := w.heap.size) (o := 0) rfl (ms := (keysK x).cells) (BL.all HG7.out) rfl) rfl ⟨rfl, ((Kp.of_below (S := fun _ => False) HB6.out).after HK7.out (fun i hi e => by omega)).below (Nat.le_refl _) (fun _ h => h.elim)⟩
end Go.Proofs.YtheijpjfpaghfaaGreatDoor
/- Contract of challenge.Spots where its arguments are not valid. -/
namespace Go.Proofs.YtheijpjfpaghfaaGreatDoor
open Go Go.RowKit Gf Sha

end Go.Proofs.YtheijpjfpaghfaaGreatDoor
/- What the examples of the chapter come to; spots are ascending: plain. -/
namespace Go.Proofs.YtheijpjfpaghfaaGreatDoor
open Go Go.RowKit Gf Sha

theorem non2 : nonceL (keysK 1) (nameL 7 7) 2 0 ≠ nonceL (keysK 1) (nameL 7 7) 2 1 := by decide +kernel
theorem spotsL_perm (nonce : List UInt8) (b c : Nat) : (spotsL nonce b c).Perm (intsN (spK nonce (b - c) c)) := List.mergeSort_perm _ _
theorem spotsL_length (nonce : List UInt8) (b c : Nat) : (spotsL nonce b c).length = c := by
 rw [(spotsL_perm nonce b c).length_eq, intsN, List.length_map, spK_length]
theorem spotsL_mem {nonce : List UInt8} {b c : Nat} (h : c ≤ b) {x : Int} (hx : x ∈ spotsL nonce b c) : 0 ≤ x ∧ x < b := by
 have := (spotsL_perm nonce b c).mem_iff.1 hx
 obtain ⟨n, hn, rfl⟩ := List.mem_map.1 this
 have := spK_lt nonce (b - c) c n hn
 exact ⟨by omega, by omega⟩
theorem spotsL_nodup (nonce : List UInt8) (b c : Nat) : (spotsL nonce b c).Nodup := by
 rw [(spotsL_perm nonce b c).nodup_iff]
 exact List.pairwise_map.2 ((spK_nodup nonce (b - c) c).imp (fun h e => h (by omega)))
theorem spotsL_asc (nonce : List UInt8) (b c : Nat) : (spotsL nonce b c).Pairwise (· < ·) := by
 have h1 : (spotsL nonce b c).Pairwise (fun x y => decide (x ≤ y) = true) := List.pairwise_mergeSort (fun a b c h1 h2 => by simp only [decide_eq_true_eq] at *; omega) (fun a b => by simp only [Bool.or_eq_true, decide_eq_true_eq]; omega) _
 have h2 := spotsL_nodup nonce b c
 exact (h1.and h2).imp (fun h => by simp only [decide_eq_true_eq] at h; have := h.1; have := h.2; omega)
theorem asc_ge {l : List Int} (h : l.Pairwise (· < ·)) (h0 : ∀ x ∈ l, 0 ≤ x) : ∀ k, (hk : k < l.length) → (k : Int) ≤ l[k] := by
 intro k
 induction k with
 | zero => intro hk; simpa using h0 _ (List.getElem_mem hk)
 | succ k ih =>
  intro hk
  have h1 := ih (by omega)
  have h2 := List.pairwise_iff_getElem.1 h k (k + 1) (by omega) hk (by omega)
  omega
theorem spots54 (nonce : List UInt8) : (spotsL nonce 5 5)[4]? = some 4 := by
 have hl := spotsL_length nonce 5 5
 have hm := fun x (hx : x ∈ spotsL nonce 5 5) => spotsL_mem (Nat.le_refl 5) hx
 have h1 := asc_ge (spotsL_asc nonce 5 5) (fun x hx => (hm x hx).1) 4 (by omega)
 have h2 := (hm _ (List.getElem_mem (show 4 < (spotsL nonce 5 5).length by omega))).2
 rw [List.getElem?_eq_getElem (by omega)]
 congr 1
 omega
end Go.Proofs.YtheijpjfpaghfaaGreatDoor
/- The examples of the chapter: awake. -/
namespace Go.Proofs.YtheijpjfpaghfaaGreatDoor
open Go Go.RowKit Gf Sha

section
variable {w : World} {o : Oper} {a : Act} {Q : Exit → Act → World → Prop} {K : Act → World → Prop}
theorem wp_bslice {P : Program} (t te : TypeId) (n : Nat) (parts : Array (Nat × Operand)) (hop : o.op = .buildSlice t n parts) (ps : Array (Nat × Value)) (hps : (parts.map fun (i, x) => (i, a.eval x)) = ps) (l : List Value)
  (hr : (Instr.buildSlice t n ps).run P w = .ok (.slice (some ⟨w.heap.size, 0, none⟩) n n) (w.alloc (.cells l.toArray te)))
  (h : ∀ w', BL w' w.heap.size te l → Below w.heap.size w w' → w'.heap.size = w.heap.size + 1 → K (a.put o.dst (.slice (some ⟨w.heap.size, 0, none⟩) n n)) w') : o.wp P a w K Q := by
 unfold Oper.wp execOp
 simp only [hop, hps]
 simp [hr, Result.andThen]
 exact h _ (BL.new w te l) ((Below.refl _ _).alloc (Nat.le_refl _) _) (by simp)
theorem wp_same (x : Operand) (hop : o.op = .convert 22 22 x) (g n c : Nat) (l : List UInt8) (hx : a.eval x = .slice (some ⟨g, 0, none⟩) n c) (h : BL w g 5 (l.map B)) (hn : l.length = n) (hl : n ≤ lim) (hc : c = n)
  (hK : ∀ w', BS w' (some ⟨g, 0, none⟩) n c l → Kp (· = g) w w' → w'.heap.size = w.heap.size → K (a.put o.dst (.slice (some ⟨g, 0, none⟩) n c)) w') : o.wp Tryz.prog a w K Q := by
 subst hc
 have hsh : w.shape? g = some (5, (l.map B).toArray.size) := by
  unfold World.shape?
  have h9 : w.heap[g]? = some (.cells (l.map B).toArray 5 (0, 0)) := h
  rw [h9]
 have hr : (convert 22 22 (.slice (some ⟨g, 0, none⟩) c c)).run Tryz.prog w = .ok (.slice (some ⟨g, 0, none⟩) c c) (w.freeze ⟨g, (l.map B).toArray.size, none⟩ 1) := by
  simp [convert, run_underlying Tryz.underlying22, run_underlying Tryz.underlying5, markStringish, hsh]
 have hfr : (w.freeze ⟨g, (l.map B).toArray.size, none⟩ 1).heap[g]? = some (.cells (l.map B).toArray 5 ((l.map B).toArray.size, (l.map B).toArray.size + 1)) := by
  have h9 : w.heap[g]? = some (.cells (l.map B).toArray 5 (0, 0)) := h
  unfold World.freeze
  rw [if_neg (by decide)]
  simp [Array.getElem?_modify, h9]
 have hkp : Kp (· = g) w (w.freeze ⟨g, (l.map B).toArray.size, none⟩ 1) := by
  unfold World.freeze
  rw [if_neg (by decide)]
  exact ⟨rfl, rfl, rfl, by simp, fun k _ hk => by simp [Array.getElem?_modify, show ¬ g = k from fun e => hk e.symm]⟩
 unfold Oper.wp execOp
 simp only [hop, hx, Sem.run_bind, hr, Result.andThen_ok]
 refine hK _ ⟨hn, Nat.le_refl _, hl, fun k hk => ⟨g, 0, rfl, ?_⟩⟩ hkp (by unfold World.freeze; rw [if_neg (by decide)]; simp)
 rw [Nat.zero_add, cell_of_row _ g k _ _ _ hfr]
 have hkl : k < l.length := by omega
 show (l.map B).toArray[k]? = some (B (gB l k))
 rw [gB_eq hkl]
 simp [hkl]
end
theorem name_c (x y : UInt8) (u v : Value) (hu : u = B x) (hv : v = B y) (w : World) : Calls Tryz.prog 23 #[u, v] w fun e w' => e = .returned (.string (strB (nameL x y))) ∧ Below w.heap.size w w' := by
 subst hu hv; exact name_any x y w
theorem nm7 : Value.int .u8 7 = B 7 := rfl
theorem spots5 (w : World) (hT : Tabs w) : Calls Tryz.prog 22 #[.string (strB (nameL 1 1)), .int .i64 5, .int .i64 5] w (SpRet (nameL 1 1) 5 5 w) := spots_yes (nameL 1 1) 5 5 w hT rfl
theorem keys1 (v : Value) (hv : v = B 1) (w : World) : Calls Tryz.prog 25 #[v] w fun e w' => e = .returned (keysK 1).val ∧ Below w.heap.size w w' := by
 subst hv; exact keys_any 1 w
/-- The bytes of "piece". -/
def pieceL : List UInt8 := [112, 105, 101, 99, 101]
theorem toks2 (A : Option Addr) (w : World) (hd : BS w A 5 5 pieceL) (hT : Tabs w) : Calls Tryz.prog 24 #[(keysK 1).val, .agg #[.string (strB (nameL 7 7)), .int .i64 2], .slice A 5 5, .int .i64 0, .int .i64 2] w (TokRet (tokL (keysK 1) (nameL 7 7) 2 pieceL 0 2) w) := tokens_yes (keysK 1) (nameL 7 7) pieceL 2 5 5 0 2 A w hd hT rfl rfl rfl rfl
def pidZ : List Value := [.string (strB []), .int .i64 0]
theorem pidZero : (Tryz.prog.info? 39).map (·.zero) = some (some (.agg pidZ.toArray)) := by kernel_rfl
def pid7 : List Value := [.string (strB (nameL 7 7)), .int .i64 2]
theorem pid7_one : ∀ v ∈ pid7, v.oneCell' = true := by
 intro v hv
 simp only [pid7, List.mem_cons, List.not_mem_nil, or_false] at hv
 rcases hv with rfl | rfl <;> rfl

/-- The two tokens of the examples, without their piece. -/
def exN (k : Nat) : List UInt8 := nonceL (keysK 1) (nameL 7 7) 2 k
def exX : List Sc := [(exN 0, tagL (exN 0) pieceL), (exN 1, tagL (exN 1) pieceL)]
theorem exX_tok : tokB (nameL 7 7) 2 exX = true := rfl
theorem exX_new : addB [] exX = true := by
 simp [exX, addB]
 exact fun e => non2 e.symm
theorem AddRet.yes {w : World} {gp gm : Nat} {s : List UInt8} {i : Int} {tv uv : Value} {tk : List Sc} {us : List (List UInt8)} {xs : List Sc} {e : Ending} {w' : World} (h : AddRet w gp gm s i tv uv tk us xs e w') (ha : addB (us ++ tk.map (·.1)) xs = true) :
  e = .returned (.int .i64 0) ∧ ∃ tv', PQ w' gp gm s i tv' uv (tk ++ xs) us ∧ Kp (PB gm tv uv) w w' ∧ ∀ b, PB gm tv' uv b → PB gm tv uv b ∨ w.heap.size ≤ b := by
 unfold AddRet at h
 rwa [if_pos ha] at h
theorem AddRet.no {w : World} {gp gm : Nat} {s : List UInt8} {i : Int} {tv uv : Value} {tk : List Sc} {us : List (List UInt8)} {xs : List Sc} {e : Ending} {w' : World} (h : AddRet w gp gm s i tv uv tk us xs e w') (ha : addB (us ++ tk.map (·.1)) xs = false) :
  e = .returned (.int .i64 5) ∧ Below w.heap.size w w' := by
 unfold AddRet at h
 rwa [if_neg (by rw [ha]; decide)] at h
theorem exX_flat : (tokL (keysK 1) (nameL 7 7) 2 pieceL 0 2).flatMap Tk.cells = tokC (nameL 7 7) 2 (exN 0, tagL (exN 0) pieceL) ++ tokC (nameL 7 7) 2 (exN 1, tagL (exN 1) pieceL) := rfl
theorem exX_tkp {w : World} {g : Nat} {t : TypeId} (h : BL w g t ((tokL (keysK 1) (nameL 7 7) 2 pieceL 0 2).flatMap Tk.cells)) : TkP w (some ⟨g, 0, none⟩) 2 2 (nameL 7 7) 2 exX :=
 ⟨rfl, Nat.le_refl _, by decide, fun k hk => ⟨g, 0, rfl, by
  match k, hk with
  | 0, _ => exact At.left (xs := tokC (nameL 7 7) 2 (exN 1, tagL (exN 1) pieceL)) (BL.all (by rw [exX_flat] at h; exact h))
  | 1, _ => exact BL.at_ (l := tokC (nameL 7 7) 2 (exN 0, tagL (exN 0) pieceL)) (l' := []) (by rw [exX_flat] at h; rw [List.append_nil]; exact h) rfl⟩⟩

theorem judge7 (v u : Value) (hv : v = .agg (tokC (nameL 7 7) 2 (exN 0, tagL (exN 0) pieceL)).toArray) (hu : u = .string (strB (tagL (exN 0) pieceL))) (w : World) :
  Calls Tryz.prog 27 #[v, u] w fun e w' => e = .returned (.bool true) ∧ Below w.heap.size w w' := by
 subst hv hu
 refine (judge_any ⟨nameL 7 7, 2, exN 0, tagL (exN 0) pieceL⟩ (tagL (exN 0) pieceL) w).mono ?_
 rintro e w' ⟨rfl, b⟩
 exact ⟨by simp [tagL_length], b⟩
theorem ex1_tkp {w : World} {g : Nat} (h : TkP w (some ⟨g, 0, none⟩) 2 2 (nameL 7 7) 2 exX) : TkP w (some ⟨g, 0, none⟩) 1 2 (nameL 7 7) 2 [(exN 0, tagL (exN 0) pieceL)] :=
 ⟨rfl, by decide, by decide, fun k hk => match k, hk with
  | 0, _ => h.2.2.2 0 (by decide)⟩
theorem ex1_short : ∀ y ∈ [exN 0] ++ [((exN 1, tagL (exN 1) pieceL) : Sc)].map (·.1), y.length ≤ 9223372036854775807 := by
 intro y hy
 simp only [List.map_cons, List.map_nil, List.cons_append, List.nil_append, List.mem_cons, List.not_mem_nil, or_false] at hy
 rcases hy with rfl | rfl
 ·
  rw [exN, nonceL_length]; decide
 ·
  rw [exN, nonceL_length]; decide
theorem ex1_old : addB ([exN 0] ++ [((exN 1, tagL (exN 1) pieceL) : Sc)].map (·.1)) [(exN 0, tagL (exN 0) pieceL)] = false := by
 simp [addB]
theorem below_pb {w0 w w' : World} {gm : Nat} {tv uv : Value} (h : Below w0.heap.size w0 w) (k : Kp (PB gm tv uv) w w') (hp : ∀ b, PB gm tv uv b → w0.heap.size ≤ b) : Below w0.heap.size w0 w' :=
 ((Kp.of_below (S := fun _ => False) h).after k (fun i hi hS => by have := hp i hS; omega)).below (Nat.le_refl _) (fun _ h => h.elim)
theorem pb_next {w0 w : World} {gm : Nat} {tv uv tv' uv' : Value} (hp : ∀ b, PB gm tv uv b → w0.heap.size ≤ b) (h : Below w0.heap.size w0 w) (o : ∀ b, PB gm tv' uv' b → PB gm tv uv b ∨ w.heap.size ≤ b) : ∀ b, PB gm tv' uv' b → w0.heap.size ≤ b :=
 fun b hb => (o b hb).elim (hp b) (fun h2 => Nat.le_trans h.size h2)

set_option maxRecDepth 100000 in
set_option maxHeartbeats 4000000 in
theorem awake_any (w : World) (hT : Tabs w) : Calls Tryz.prog 5 #[] w fun e w' => e = .returned (.bool true) ∧ Below w.heap.size w w' := by
 have HT := Lib.hid hT
 clear hT
 go_enter Tryz.func5, Tryz.ntmps5
 go_wp2_with (first
  | (go_at_call 23; (with_reducible show Calls _ _ _ w _); refine (name_c 1 1 _ _ nm1 nm1 w).mono ?_; rintro e w1 ⟨rfl, b1⟩; have HB1 := Lib.hid b1; clear b1)
  | (go_at_call 22; refine (spots5 w1 (HT.out.kept HB1.out)).mono ?_; rintro e w2 ⟨v, rfl, _, o1, b2⟩; obtain ⟨g2, c2, rfl⟩ := own_form o1.2 (by decide); have HB2 := Lib.hid (below_then HB1.out b2); have HO2 := Lib.hid (RW.of_own o1.2); clear o1 b2)
  | (go_at_call 23; (with_reducible show Calls _ _ _ w2 _); refine (name_c 7 7 _ _ nm7 nm7 w2).mono ?_; rintro e w3 ⟨rfl, b1⟩; have HB3 := Lib.hid (below_then HB2.out b1); have HO3 := Lib.hid (HO2.out.1.kept b1); clear b1)
  | ((with_reducible show OpW 3); refine wpList_alloc _ rfl 39 rfl pidZ pidZero ?_; intro w4 a1 a2 a3; have HG4 := Lib.hid a1; have HX4 := Lib.hid a2; have HZ4 := Lib.hid a3; clear a1 a2 a3)
  | ((with_reducible show OpN); refine wpList_storev _ rfl 39 (.tmp 3) (.tmp 17) rfl 2 (by kernel_rfl) w3.heap.size 0 _ pidZ pid7 rfl rfl HG4.out rfl pid7_one (by decide) ?_; intro w5 a1 a2 a3; have HG5 : Hid (BL w5 w3.heap.size 39 pid7) := Lib.hid a1; have HX5 : Hid (Below w3.heap.size w3 w5) := Lib.hid (((Kp.of_below (S := fun _ => False) HX4.out).after a2 (fun i hi e => by omega)).below (Nat.le_refl _) (fun _ h => h.elim)); clear a1 a2 a3))
 have HB5 := Lib.hid (below_thenB HB3.out HB3.out.size HX5.out)
 have HO5 := Lib.hid (HO3.out.kept HX5.out)
 clear HO2 HO3 HX4 HG4
 go_simp
 go_cut [4, 5] (fun s4 s5 wx => ∃ gl : Nat, s4 = .slice (some ⟨gl, 0, none⟩) 2 2 ∧ s5 = .int .i64 0 ∧ Hid (BL wx gl 45 ((tokL (keysK 1) (nameL 7 7) 2 pieceL 0 2).flatMap Tk.cells)) ∧ Hid (Below w5.heap.size w5 wx) ∧ Hid (w5.heap.size ≤ gl))
 case first =>
  refine Text.wp_region_bt (fun w' => Below w5.heap.size w5 w') (.still 1 0 (.br 0 (.eff 2 (.eff 3 (.eff 4 (.still 5 4 (.still 6 4 (.still 7 4 (.still 8 4 (.still 9 4 .leaf)))))))) 2 (.br 0 (.eff 3 (.eff 4 (.still 5 4 (.still 6 4 (.still 7 4 (.still 8 4 (.still 9 4 .leaf))))))) 3 (.eff 0 (.eff 4 (.still 5 4 (.still 6 4 (.still 7 4 (.still 8 4 (.still 9 4 .leaf)))))))))) (by kernel_rfl) (by kernel_rfl) (fun _ _ _ _ _ h => h) ((Below.refl _ _).drew) ?_
  refine Text.bheldk rfl rfl (fun K hK => ⟨_, fun w' hw' => exec_loadv 39 (.tmp 3) rfl 2 (by kernel_rfl) w3.heap.size 0 pid7 rfl (BL.all (HG5.out.kept hw')) rfl, ?_⟩)
  go_simp
  refine hK _ ?_
  clear hK K
  have HD : Hid (Below w5.heap.size w5 w5.drew) := Lib.hid (Below.refl _ _).drew
  refine Text.bfork ?_ ?_
  ·
   refine Text.beff rfl rfl (fun K hK => ?_)
   go_simp
   refine (keys1 _ nm1 w5.drew).mono ?_
   rintro e wa ⟨rfl, b1⟩
   have HXwa : Hid (Below w5.heap.size w5 wa) := Lib.hid (below_thenB (HD.out) (by have := (HD.out).size; exact this) b1)
   have HBwa := Lib.hid b1
   refine hK _ _ HXwa.out ?_
   clear hK K b1
   refine Text.beff rfl rfl (fun K hK => ?_)
   refine wp_bslice 22 5 5 _ rfl #[(0, B 112), (1, B 105), (2, B 101), (3, B 99), (4, B 101)] (by rw [List.map_toArray]; rfl) (pieceL.map B) (bsl5 112 105 101 99 101 _) ?_
   intro wb a1 a2 a3
   have HXwb : Hid (Below w5.heap.size w5 wb) := Lib.hid (below_thenB (HXwa.out) (by have := (HXwa.out).size; exact this) a2)
   have HGwb := Lib.hid a1
   refine hK _ _ HXwb.out ?_
   clear hK K a1 a2 a3
   refine Text.beff rfl rfl (fun K hK => ?_)
   refine wp_same (.tmp 21) rfl wa.heap.size 5 5 pieceL rfl HGwb.out rfl (by decide) rfl ?_
   intro wc a1 a2 a3
   have HXwc : Hid (Below w5.heap.size w5 wc) := Lib.hid (((Kp.of_below (S := fun _ => False) (HXwb.out)).after a2 (fun i hi e => by have := (HXwa.out).size; have e2 : w5.drew.heap.size = w5.heap.size := rfl; omega)).below (Nat.le_refl _) (fun _ h => h.elim))
   have HSwc := Lib.hid a1
   refine hK _ _ HXwc.out ?_
   clear hK K a1 a2 a3
   refine Text.beff rfl rfl (fun K hK => ?_)
   go_simp
   refine (toks2 _ wc HSwc.out (HT.out.kept (below_thenB HB5.out HB5.out.size HXwc.out))).mono ?_
   rintro e wt ⟨gl, nl, rfl, hn, hg, hb, hb2⟩
   obtain rfl : nl = 2 := hn.symm
   have HXt : Hid (Below w5.heap.size w5 wt) := Lib.hid (below_thenB HXwc.out HXwc.out.size hb2)
   have HL := Lib.hid hb
   have HGL : Hid (w5.heap.size ≤ gl) := Lib.hid (Nat.le_trans HXwc.out.size hg)
   refine hK _ _ HXt.out ?_
   clear hK K hn hg hb hb2
   iterate 5 (refine Text.bpurek rfl rfl (fun K hK => ⟨_, fun w' => by go_simp <;> rfl, ?_⟩); go_simp; refine hK _ ?_; clear hK K)
   refine Text.bdone ?_
   go_wp2_with fail
   go_meet
   exact ⟨gl, rfl, rfl, HL, HXt, HGL⟩
  ·
   refine Text.beff rfl rfl (fun K hK => ?_)
   refine wp_bslice 22 5 5 _ rfl #[(0, B 112), (1, B 105), (2, B 101), (3, B 99), (4, B 101)] (by rw [List.map_toArray]; rfl) (pieceL.map B) (bsl5 112 105 101 99 101 _) ?_
   intro wa a1 a2 a3
   have HXwa : Hid (Below w5.heap.size w5 wa) := Lib.hid (below_thenB (HD.out) (by have := (HD.out).size; exact this) a2)
   have HGwa := Lib.hid a1
   refine hK _ _ HXwa.out ?_
   clear hK K a1 a2 a3
   refine Text.bfork ?_ ?_
   ·
    refine Text.beff rfl rfl (fun K hK => ?_)
    go_simp
    refine (keys1 _ nm1 wa).mono ?_
    rintro e wb ⟨rfl, b1⟩
    have HXwb : Hid (Below w5.heap.size w5 wb) := Lib.hid (below_thenB (HXwa.out) (by have := (HXwa.out).size; exact this) b1)
    have HBwb := Lib.hid b1
    refine hK _ _ HXwb.out ?_
    clear hK K b1
    have HGb := Lib.hid (HGwa.out.kept HBwb.out)
    refine Text.beff rfl rfl (fun K hK => ?_)
    refine wp_same (.tmp 21) rfl w5.heap.size 5 5 pieceL rfl HGb.out rfl (by decide) rfl ?_
    intro wc a1 a2 a3
    have HXwc : Hid (Below w5.heap.size w5 wc) := Lib.hid (((Kp.of_below (S := fun _ => False) (HXwb.out)).after a2 (fun i hi e => by have := (HD.out).size; have e2 : w5.drew.heap.size = w5.heap.size := rfl; omega)).below (Nat.le_refl _) (fun _ h => h.elim))
    have HSwc := Lib.hid a1
    refine hK _ _ HXwc.out ?_
    clear hK K a1 a2 a3
    refine Text.beff rfl rfl (fun K hK => ?_)
    go_simp
    refine (toks2 _ wc HSwc.out (HT.out.kept (below_thenB HB5.out HB5.out.size HXwc.out))).mono ?_
    rintro e wt ⟨gl, nl, rfl, hn, hg, hb, hb2⟩
    obtain rfl : nl = 2 := hn.symm
    have HXt : Hid (Below w5.heap.size w5 wt) := Lib.hid (below_thenB HXwc.out HXwc.out.size hb2)
    have HL := Lib.hid hb
    have HGL : Hid (w5.heap.size ≤ gl) := Lib.hid (Nat.le_trans HXwc.out.size hg)
    refine hK _ _ HXt.out ?_
    clear hK K hn hg hb hb2
    iterate 5 (refine Text.bpurek rfl rfl (fun K hK => ⟨_, fun w' => by go_simp <;> rfl, ?_⟩); go_simp; refine hK _ ?_; clear hK K)
    refine Text.bdone ?_
    go_wp2_with fail
    go_meet
    exact ⟨gl, rfl, rfl, HL, HXt, HGL⟩
   ·
    refine Text.beff rfl rfl (fun K hK => ?_)
    refine wp_same (.tmp 21) rfl w5.heap.size 5 5 pieceL rfl HGwa.out rfl (by decide) rfl ?_
    intro wb a1 a2 a3
    have HXwb : Hid (Below w5.heap.size w5 wb) := Lib.hid (((Kp.of_below (S := fun _ => False) (HXwa.out)).after a2 (fun i hi e => by have := (HD.out).size; have e2 : w5.drew.heap.size = w5.heap.size := rfl; omega)).below (Nat.le_refl _) (fun _ h => h.elim))
    have HSwb := Lib.hid a1
    refine hK _ _ HXwb.out ?_
    clear hK K a1 a2 a3
    refine Text.beff rfl rfl (fun K hK => ?_)
    go_simp
    refine (keys1 _ nm1 wb).mono ?_
    rintro e wc ⟨rfl, b1⟩
    have HXwc : Hid (Below w5.heap.size w5 wc) := Lib.hid (below_thenB (HXwb.out) (by have := (HXwb.out).size; exact this) b1)
    have HBwc := Lib.hid b1
    refine hK _ _ HXwc.out ?_
    clear hK K b1
    have HSc := Lib.hid (HSwb.out.kept HBwc.out)
    refine Text.beff rfl rfl (fun K hK => ?_)
    go_simp
    refine (toks2 _ wc HSc.out (HT.out.kept (below_thenB HB5.out HB5.out.size HXwc.out))).mono ?_
    rintro e wt ⟨gl, nl, rfl, hn, hg, hb, hb2⟩
    obtain rfl : nl = 2 := hn.symm
    have HXt : Hid (Below w5.heap.size w5 wt) := Lib.hid (below_thenB HXwc.out HXwc.out.size hb2)
    have HL := Lib.hid hb
    have HGL : Hid (w5.heap.size ≤ gl) := Lib.hid (Nat.le_trans HXwc.out.size hg)
    refine hK _ _ HXt.out ?_
    clear hK K hn hg hb hb2
    iterate 5 (refine Text.bpurek rfl rfl (fun K hK => ⟨_, fun w' => by go_simp <;> rfl, ?_⟩); go_simp; refine hK _ ?_; clear hK K)
    refine Text.bdone ?_
    go_wp2_with fail
    go_meet
    exact ⟨gl, rfl, rfl, HL, HXt, HGL⟩
 case rest =>
  obtain ⟨gl, rfl, rfl, hl, hb, hg⟩ := hcut
  have HBc := Lib.hid (below_thenB HB5.out HB5.out.size hb.out)
  have HGc := Lib.hid (HG5.out.kept hb.out)
  have HOc := Lib.hid (HO5.out.kept hb.out)
  have HTP := Lib.hid (exX_tkp hl.out)
  have HTc := Lib.hid (HT.out.kept HBc.out)
  obtain ⟨g2', o2', c2', e2, _, hat2⟩ := HOc.out.at_ (by decide)
  cases e2
  have r4 : wc.cell? ⟨g2, 0 + 4, none⟩ = some (.int .i64 4) := hat2 4 _ (by rw [List.getElem?_map, spots54]; rfl)
  have HR4 := Lib.hid r4
  clear hat2 HO5 HG5 HX5 r4
  go_wp2_with (first
   | (go_at_call 10; refine (purse_new wc (nameL 7 7) 2).mono ?_; rintro e w6 ⟨gp, gm, rfl, p1, b1, p2, p3⟩; have HP6 := Lib.hid p1; have HB6 := Lib.hid b1; have q4 := cell_kept b1 HR4.out; have HPB6 : Hid (∀ b, PB gm nilV nilV b → wc.heap.size ≤ b) := Lib.hid (fun b hb => hb.elim (fun h => by subst h; first | exact p3 | exact p2 | omega) (fun h => h.elim (fun h => by cases h) (fun h => by cases h))); clear b1 p1 p2 p3)
   | (go_at_call 12; refine (add_any w6 gp gm (nameL 7 7) 2 nilV nilV [] [] _ 2 2 exX HP6.out (HTP.out.kept HB6.out) exX_tok (by decide) (fun y hy => by simp at hy) (fun a ha hb' => by cases ha; exact Nat.not_lt.2 (HPB6.out _ hb') hl.out.lt)).mono ?_; rintro e w7 hr; obtain ⟨rfl, tv', p, k, o⟩ := AddRet.yes hr exX_new; have HP7 := Lib.hid p; have HB7 := Lib.hid (below_pb HB6.out k HPB6.out); have HPB7 := Lib.hid (pb_next HPB6.out HB6.out o); have hg7 := HGc.out.kept HB7.out; have r0 := hg7.get (j := 0) rfl; have r1 := hg7.get (j := 1) rfl; clear p k o q4 hr hg7)
   | (go_at_call 19; (with_reducible show Calls _ _ _ w7 _); refine (left_any w7 gp gm (nameL 7 7) 2 _ _ _ _ HP7.out (by decide) (by decide)).mono ?_; rintro e w8 ⟨rfl, b1⟩; rw [show ([] ++ exX : List Sc).length = 2 from rfl, show ((2 : Nat) : Int) = 2 from rfl]; have HB8 := Lib.hid (below_thenB HB7.out HB7.out.size b1); have HP8 := Lib.hid (HP7.out.kept b1); clear b1 r0 r1)
   | ((with_reducible show OpW 67); refine wpList_loadv _ rfl 39 (.tmp 3) rfl 2 (by kernel_rfl) w3.heap.size 0 pid7 rfl (BL.all (HGc.out.kept HB8.out)) rfl ?_)
   | (go_at_call 14; refine (use_one w8 gp gm (nameL 7 7) 2 _ _ (exN 0, tagL (exN 0) pieceL) [(exN 1, tagL (exN 1) pieceL)] [] HP8.out (by decide) (by decide) (by decide)).mono ?_; rintro e w9 ⟨rfl, tv9, uv9, p, k, o⟩; have HP9 := Lib.hid p; have HB9 := Lib.hid (below_pb HB8.out k HPB7.out); have HPB9 := Lib.hid (pb_next HPB7.out HB8.out o); clear p k o)
   | ((with_reducible show OpW 7); refine wpList_alloc _ rfl 45 rfl tokZ tokZero ?_; intro w10 a1 a2 a3; have HV10 := Lib.hid a1; have HX10 := Lib.hid a2; clear a1 a2 a3)
   | ((with_reducible show OpN); refine wpList_storev _ rfl 45 (.tmp 7) (.tmp 69) rfl 4 (by kernel_rfl) w9.heap.size 0 _ tokZ (tokC (nameL 7 7) 2 (exN 0, tagL (exN 0) pieceL)) rfl rfl HV10.out rfl (tokC_one _ _ _) (by decide) ?_; intro w11 a1 a2 a3; have HV11 : Hid (BL w11 w9.heap.size 45 (tokC (nameL 7 7) 2 (exN 0, tagL (exN 0) pieceL))) := Lib.hid a1; have HX11 : Hid (Below w9.heap.size w9 w11) := Lib.hid (((Kp.of_below (S := fun _ => False) HX10.out).after a2 (fun i hi e => by omega)).below (Nat.le_refl _) (fun _ h => h.elim)); have HB11 := Lib.hid (below_thenB HB9.out HB9.out.size HX11.out); have HP11 := Lib.hid (HP9.out.kept HX11.out); have hl11 := hl.out.kept HB11.out; have c2 : w11.cell? ⟨gl, 2, none⟩ = some (.string (strB (exN 0))) := hl11.get (j := 2) rfl; clear a1 a2 a3 hl11)
   | ((with_reducible show OpW 76); refine wpList_bslice _ rfl 22 5 5 _ rfl #[(0, B 112), (1, B 105), (2, B 101), (3, B 99), (4, B 101)] (by rw [List.map_toArray]; rfl) (pieceL.map B) (bsl5 112 105 101 99 101 _) ?_; intro w12 a1 a2 a3; have HG12 := Lib.hid a1; have HX12 := Lib.hid a2; clear a1 a2 a3)
   | ((with_reducible show OpW 77); refine wpList_same _ rfl (.tmp 76) rfl w11.heap.size 5 5 pieceL rfl HG12.out rfl (by decide) rfl ?_; intro w13 a1 a2 a3; have HS13 := Lib.hid a1; have HX13 : Hid (Below w11.heap.size w11 w13) := Lib.hid (((Kp.of_below (S := fun _ => False) HX12.out).after a2 (fun i hi e => by omega)).below (Nat.le_refl _) (fun _ h => h.elim)); have HB13 := Lib.hid (below_thenB HB11.out HB11.out.size HX13.out); have HP13 := Lib.hid (HP11.out.kept HX13.out); have HV13 := Lib.hid (HV11.out.kept HX13.out); clear a1 a2 a3)
   | (go_at_call 26; refine (answer_yes (exN 0) _ 5 5 pieceL w13 HS13.out (HTc.out.kept HB13.out) rfl rfl).mono ?_; rintro e w14 ⟨rfl, b1⟩; have HB14 := Lib.hid (below_thenB HB13.out HB13.out.size b1); have HP14 := Lib.hid (HP13.out.kept b1); have HV14 := Lib.hid (HV13.out.kept b1); clear b1 c2))
  have HL14 := Lib.hid (hl.out.kept HB14.out)
  have HG14 := Lib.hid (HGc.out.kept HB14.out)
  have HTP14 := Lib.hid (HTP.out.kept HB14.out)
  clear HGc HTP HV11 HV13 HV10 HX10 HX11 HX12 HX13 HG12 HS13 HP6 HP7 HP8 HP9 HP11 HP13 HPB6 HPB7 HR4
  refine Text.wp_region_text (fun w' => Below w14.heap.size w14 w') [(0, 4), (1, 4), (2, 4), (4, 4), (5, 4), (3, 0), (6, 0), (7, 4), (8, 4), (9, 4), (10, 4), (11, 4), (12, 4), (13, 4), (15, 4), (14, 0), (16, 2), (17, 4), (18, 4), (19, 4), (20, 0), (21, 2), (22, 4), (23, 4), (24, 4), (25, 4), (26, 4), (27, 4), (28, 2), (29, 4), (30, 4), (31, 4)] (by kernel_rfl) (by kernel_rfl) (fun _ _ _ _ _ h => h) ((Below.refl _ _).drew) ?_
  iterate 5 (refine Text.purek rfl rfl (fun K hK => ⟨_, fun w' => by go_simp <;> rfl, ?_⟩); go_simp; refine hK _ ?_; clear hK K)
  refine Text.heldk rfl rfl (fun K hK => ?_)
  refine ⟨_, fun w' hw' => exec_loadv 45 (.tmp 7) rfl 4 (by kernel_rfl) w9.heap.size 0 (tokC (nameL 7 7) 2 (exN 0, tagL (exN 0) pieceL)) rfl (BL.all (HV14.out.kept hw')) rfl, ?_⟩
  go_simp
  refine hK _ ?_
  clear hK K
  refine Text.heldk rfl rfl (fun K hK => ?_)
  refine ⟨_, fun w' hw' => exec_loadv 45 (.tmp 86) rfl 4 (by kernel_rfl) gl 0 (tokC (nameL 7 7) 2 (exN 0, tagL (exN 0) pieceL)) rfl (At.left (xs := tokC (nameL 7 7) 2 (exN 1, tagL (exN 1) pieceL)) (BL.all (HL14.out.kept hw'))) rfl, ?_⟩
  go_simp
  refine hK _ ?_
  clear hK K
  iterate 8 (refine Text.purek rfl rfl (fun K hK => ⟨_, fun w' => by go_simp <;> rfl, ?_⟩); go_simp; refine hK _ ?_; clear hK K)
  refine Text.heldk rfl rfl (fun K hK => ?_)
  refine ⟨_, fun w' hw' => exec_loadv 45 (.tmp 7) rfl 4 (by kernel_rfl) w9.heap.size 0 (tokC (nameL 7 7) 2 (exN 0, tagL (exN 0) pieceL)) rfl (BL.all (HV14.out.kept hw')) rfl, ?_⟩
  go_simp
  refine hK _ ?_
  clear hK K
  refine Text.effw rfl rfl (fun K hK => ?_)
  go_simp
  refine (judge7 _ _ rfl rfl _).mono ?_
  rintro e w15 ⟨rfl, b1⟩
  have HB15 : Hid (Below w14.heap.size w14 w15) := Lib.hid ((Below.refl _ _).drew.trans (b1.mono (Nat.le_refl _)))
  refine hK _ _ HB15.out ?_
  clear hK K b1
  iterate 3 (refine Text.purek rfl rfl (fun K hK => ⟨_, fun w' => by go_simp <;> rfl, ?_⟩); go_simp; refine hK _ ?_; clear hK K)
  refine Text.heldk rfl rfl (fun K hK => ?_)
  refine ⟨_, fun w' hw' => exec_loadv 39 (.tmp 3) rfl 2 (by kernel_rfl) w3.heap.size 0 pid7 rfl (BL.all (HG14.out.kept hw')) rfl, ?_⟩
  go_simp
  refine hK _ ?_
  clear hK K
  refine Text.effw rfl rfl (fun K hK => ?_)
  go_simp
  refine (left_any w15 gp gm (nameL 7 7) 2 _ _ _ _ (HP14.out.kept HB15.out) (by decide) (by decide)).mono ?_
  rintro e w16 ⟨rfl, b1⟩
  rw [show (((([(exN 1, tagL (exN 1) pieceL)] : List Sc).length : Nat)) : Int) = 1 from rfl]
  have HB16 : Hid (Below w14.heap.size w14 w16) := Lib.hid (below_then HB15.out b1)
  refine hK _ _ HB16.out ?_
  clear hK K b1
  iterate 6 (refine Text.purek rfl rfl (fun K hK => ⟨_, fun w' => by go_simp <;> rfl, ?_⟩); go_simp; refine hK _ ?_; clear hK K)
  refine Text.effw rfl rfl (fun K hK => ?_)
  go_simp
  refine (add_any w16 gp gm (nameL 7 7) 2 tv9 uv9 [(exN 1, tagL (exN 1) pieceL)] [exN 0] (some ⟨gl, 0, none⟩) 1 2 [(exN 0, tagL (exN 0) pieceL)] (HP14.out.kept HB16.out) (ex1_tkp (HTP14.out.kept HB16.out)) rfl (by decide) ex1_short (fun a ha hb' => by cases ha; exact Nat.not_lt.2 (HPB9.out _ hb') hl.out.lt)).mono ?_
  rintro e w17 hr
  obtain ⟨rfl, b1⟩ := AddRet.no hr ex1_old
  have HB17 : Hid (Below w14.heap.size w14 w17) := Lib.hid (below_then HB16.out b1)
  refine hK _ _ HB17.out ?_
  clear hK K b1 hr
  iterate 3 (refine Text.purek rfl rfl (fun K hK => ⟨_, fun w' => by go_simp <;> rfl, ?_⟩); go_simp; refine hK _ ?_; clear hK K)
  refine Text.done ?_
  go_wp2_with fail
  go_ret
  exact ⟨rfl, below_thenB HBc.out HBc.out.size (below_thenB HB14.out HB14.out.size HB17.out)⟩
end Go.Proofs.YtheijpjfpaghfaaGreatDoor
/- Contract of ref44.Tokens. -/
namespace Go.Proofs.YtheijpjfpaghfaaGreatDoor
open Go Go.RowKit Gf Sha

section
variable {P : Program} (w : World) {o : Oper} {a : Act} {Q : Exit → Act → World → Prop} {K : Act → World → Prop}
theorem wp_appRW (sl x : Operand) (t te : TypeId) (s : Nat) (i : TypeInfo) (z : Value) (hop : o.op = .call { callee := .builtin .append, args := #[sl, x], argTypes := #[t, t] })
  (ht : P.underlying t = some (.slice te)) (hi : P.info? te = some i) (hz : i.zero = some z) (hs : i.size = s) (hzs : z.cells.size = s) (v : Value) (n : Nat) (l : List Value) (hv : a.eval sl = v) (h : RW w te s v n l)
  (g : Nat) (xs : List Value) (hx : a.eval x = .slice (some ⟨g, 0, none⟩) 1 1) (hbl : BL w g te xs) (hxl : xs.length = s) (h1 : ∀ u ∈ xs, u.oneCell' = true) (hb : (n + 1) * i.bytes ≤ 140737488355328) (hn : n + 1 ≤ 140737488355328)
  (hK : ∀ v' w', AppR w te s v n 1 l xs v' w' → K (a.put o.dst v') w') : o.wp P a w K Q := by
 have hrow : RW w te s (.slice (some ⟨g, 0, none⟩) 1 1) 1 xs := RW.of_blk hbl (by omega) (by decide)
 have hsrc : Src P s t (.slice (some ⟨g, 0, none⟩) 1 1) 1 xs w := ⟨.inl ⟨_, ht⟩, fun _ => rfl, hrow.firstCells, RW.firstCells hrow.drew, by omega, h1⟩
 obtain ⟨v', w', hr, h2⟩ := run_appRW (rt := o.type) ht hi hz hs hzs h hsrc (by decide) hb hn
 unfold Oper.wp execOp
 simp only [hop, resolve, invoke, builtin, Sem.run_bind, Sem.run_pure, Result.andThen_ok, List.map_toArray, List.map_cons, List.map_nil, hv, hx, hr]
 exact hK _ _ h2
end
theorem bslTok (s n t : List UInt8) (i : Int) (w : World) : (Instr.buildSlice 37 1 #[(0, .agg #[.string (strB s), .int .i64 i, .string (strB n), .string (strB t)])]).run Tryz.prog w = .ok (.slice (some ⟨w.heap.size, 0, none⟩) 1 1) (w.alloc (.cells [.string (strB s), .int .i64 i, .string (strB n), .string (strB t)].toArray 45)) := by kernel_rfl
theorem infoTk4 : (Tryz.prog.info? 45).map (fun i => (i.zero, i.size, i.bytes)) = some (some (.agg Tk.zero.cells.toArray), 4, 56) := infoTok
end Go.Proofs.YtheijpjfpaghfaaGreatDoor
