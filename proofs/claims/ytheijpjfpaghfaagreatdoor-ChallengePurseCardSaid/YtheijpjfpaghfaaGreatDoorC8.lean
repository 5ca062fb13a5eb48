/- Several texts in one: Join, Hm0, Text2. -/
import Derived.Test.YtheijpjfpaghfaaGreatDoorC7
import Derived.Test.YtheijpjfpaghfaaGreatDoorC4
/- Contracts of sha256.Join and sha256.Sum. -/
namespace Go.Proofs.YtheijpjfpaghfaaGreatDoor
open Go.RowKit Gf Sha

/-- Strings. -/
def TS (w : World) (A : Option Addr) (n c : Nat) (m : List (List UInt8)) : Prop :=
 m.length = n ∧ n ≤ c ∧ n * 16 ≤ lim ∧ Cells w A n (fun k => .string (strB (gR m k)))
theorem TS.kept {w w' : World} {A : Option Addr} {n c : Nat} {m : List (List UInt8)} (h : TS w A n c m) (hb : Below w.heap.size w w') : TS w' A n c m := ⟨h.1, h.2.1, h.2.2.1, h.2.2.2.kept hb⟩
theorem TS.drew {w : World} {A : Option Addr} {n c : Nat} {m : List (List UInt8)} (h : TS w A n c m) : TS w.drew A n c m := h
theorem TS.at_ {w w' : World} {A : Option Addr} {n c : Nat} {m : List (List UInt8)} (h : TS w A n c m) (hb : Below w.heap.size w w') {k : Nat} (hk : k < n) : ∃ g o, A = some ⟨g, o, none⟩ ∧ w'.cell? ⟨g, o + k, none⟩ = some (.string (strB (gR m k))) := (h.kept hb).2.2.2 k hk
theorem TS.nil {w : World} : TS w none 0 0 [] := ⟨rfl, Nat.le_refl _, by decide, fun k hk => absurd hk (by omega)⟩
theorem TS.of_blk {w : World} {g : Nat} {t : TypeId} {m : List (List UInt8)} (h : BL w g t (m.map fun l => .string (strB l))) {n : Nat} (hn : m.length = n) (hl : n * 16 ≤ lim) : TS w (some ⟨g, 0, none⟩) n n m :=
 ⟨hn, Nat.le_refl _, hl, fun k hk => ⟨g, 0, rfl, by
  rw [Nat.zero_add]
  refine h.get ?_
  rw [List.getElem?_map, List.getElem?_eq_getElem (by omega)]
  show some (Value.string _) = some (.string (strB (gR m k)))
  rw [gR_eq (by omega)]⟩⟩
theorem flat_take {m : List (List UInt8)} {k : Nat} (h : k < m.length) : (m.take (k + 1)).flatten = (m.take k).flatten ++ gR m k := by
 rw [List.take_succ_eq_append_getElem h, List.flatten_append, gR_eq h]; simp
theorem flat_le (m : List (List UInt8)) (k : Nat) : (m.take k).flatten.length ≤ m.flatten.length := by
 conv => rhs; rw [← List.take_append_drop k m]
 rw [List.flatten_append, List.length_append]; omega

set_option maxRecDepth 100000 in
set_option maxHeartbeats 1000000 in
theorem join_any (A : Option Addr) (n c : Nat) (m : List (List UInt8)) (w : World) (h : TS w A n c m) (hT : Tabs w) (hN : m.flatten.length ≤ 1125899906842624) (hL : ∀ k, k < n → (gR m k).length ≤ lim) :
  Calls Tryz.prog 100 #[.slice A n c] w fun e w' => e = .returned (.string (strB (sha m.flatten))) ∧ Below w.heap.size w w' := by
 have hn : n * 16 ≤ 140737488355328 := by have := h.2.2.1; unfold lim at this; omega
 have H := Lib.hid h
 have HT := Lib.hid hT
 have HN := Lib.hid hN
 have HL := Lib.hid hL
 have HS := Lib.hid hT.size
 clear h hT hN hL
 go_enter Tryz.func100, Tryz.ntmps100
 go_wp2_with (go_at_call 102; refine (new_any w HT.out).mono ?_; rintro e w1 ⟨rfl, b1, b2⟩; have HB1 := Lib.hid b1; have HB2 := Lib.hid b2; clear b1 b2)
 go_loopw [9] (fun i wr => ∃ k : Nat, k ≤ n ∧ i = .int .i64 (k : Int) ∧ Hid (Hs wr w.heap.size 173 [] (m.take k).flatten) ∧ Hid (Below w.heap.size w wr)) (fun i _ => n - (intOf i).toNat)
 case atStart => exact ⟨0, by omega, rfl, HB1, HB2⟩
 case round =>
  obtain ⟨k, hk, rfl, hh, hb⟩ := hrel
  by_cases hlt : k < n
  ·
   obtain ⟨g, o, rfl, q1⟩ := H.out.at_ hb.out hlt
   obtain ⟨wx, hwx⟩ : ∃ x, x = wr := ⟨_, rfl⟩
   rw [← hwx] at hh hb q1 ⊢
   clear hwx
   have HLk : Hid ((gR m k).length ≤ lim) := Lib.hid (HL.out k hlt)
   have HLN : Hid ((m.take k).flatten.length + (gR m k).length ≤ 1152921504606846976) := Lib.hid (by
    have h1 := flat_le m (k + 1)
    rw [flat_take (by rw [H.out.1]; exact hlt), List.length_append] at h1
    have := HN.out
    omega)
   have HTk : Hid ((m.take (k + 1)).flatten = (m.take k).flatten ++ gR m k) := Lib.hid (flat_take (by rw [H.out.1]; exact hlt))
   go_wp2_with (first
    | ((with_reducible show OpW 15); refine wpList_convB _ rfl (.tmp 14) rfl (gR m k) rfl ?_; intro w2 cap hc; have HC := Lib.hid hc; clear hc)
    | (go_at_call 103; refine (write_any w.heap.size _ cap _ 173 (m.take k).flatten (gR m k) [] w2 (hh.out.kept HC.out.2.2.1) (HC.out.bs HLk.out) ((HT.out.kept hb.out).kept HC.out.2.2.1) HS.out (fun g' o' _ e e2 => by cases e; have := hh.out.lt; have e2 : wx.heap.size = w.heap.size := e2; omega) HLN.out).mono ?_; rintro e w3 ⟨rfl, r1, r2⟩; rw [← HTk.out] at r1; have HR1 := Lib.hid r1; have HR2 := Lib.hid r2; clear r1 r2))
   have HBE : Hid (Below w.heap.size w w3) := Lib.hid (((Kp.of_below (S := fun _ => False) (below_thenB hb.out hb.out.size HC.out.2.2.1)).after HR2.out (fun i hi e => by omega)).below (Nat.le_refl _) (fun _ h => h.elim))
   go_wp2_with fail
   go_roundw
   case rel => exact ⟨k + 1, by omega, by go_num, HR1, HBE⟩
   case measure => simp [intOf]; omega
  ·
   obtain rfl : k = n := by omega
   have hh2 := hh.out
   rw [List.take_of_length_le (by rw [H.out.1]; exact Nat.le_refl _)] at hh2
   have HH2 := Lib.hid hh2
   clear hh2
   go_wp2_with (go_at_call 104; refine (sum_any w.heap.size 173 m.flatten [] wr HH2.out (HT.out.kept hb.out) HN.out).mono ?_; rintro e w3 ⟨rfl, r1⟩)
   go_ret
   exact ⟨rfl, below_thenB hb.out hb.out.size r1⟩

end Go.Proofs.YtheijpjfpaghfaaGreatDoor
/- Contract of the closure in hmac.New: a block of 64 bytes combined with a byte. -/
namespace Go.Proofs.YtheijpjfpaghfaaGreatDoor
open Go.RowKit Gf Sha

/-- Bytes combined with a byte. -/
def xr (x : UInt8) (f : List UInt8) : List UInt8 := f.map fun b => b ^^^ x
theorem xr_length (x : UInt8) (f : List UInt8) : (xr x f).length = f.length := by simp [xr]
/-- The first k combined, the others 0. -/
def xpart (x : UInt8) (f : List UInt8) (k : Nat) : List UInt8 := xr x (f.take k) ++ List.replicate (f.length - k) 0
theorem xpart_zero (x : UInt8) (f : List UInt8) : xpart x f 0 = List.replicate f.length 0 := by simp [xpart, xr]
theorem xpart_all (x : UInt8) (f : List UInt8) : xpart x f f.length = xr x f := by simp [xpart]
theorem xpart_set (x : UInt8) (f : List UInt8) (k : Nat) (h : k < f.length) : (xpart x f k).set k (gB f k ^^^ x) = xpart x f (k + 1) := by
 have e : f.length - k = (f.length - (k + 1)) + 1 := by omega
 have hl : (xr x (f.take k)).length = k := by simp [xr]; omega
 unfold xpart
 rw [List.set_append, if_neg (by omega), hl, Nat.sub_self, e, List.replicate_succ, List.set_cons_zero, List.take_succ_eq_append_getElem h, xr, xr, List.map_append, List.append_assoc, gB_eq h]
 rfl
theorem map_set_B (l : List UInt8) (k : Nat) (b : UInt8) : (l.map B).set k (B b) = (l.set k b).map B := by rw [List.map_set]
theorem map_get_B (l : List UInt8) (k : Nat) (h : k < l.length) : (l.map B)[k]? = some (B (gB l k)) := by
 rw [List.getElem?_map, List.getElem?_eq_getElem h, gB_eq h]; rfl
theorem oneB (l : List UInt8) : ∀ v ∈ l.map B, v.oneCell' = true := by
 intro v hv
 obtain ⟨b, _, rfl⟩ := List.mem_map.1 hv
 rfl
theorem zero_arr : (Tryz.prog.info? 168).map (·.zero) = some (some (.agg ((List.replicate 64 (0 : UInt8)).map B).toArray)) := by kernel_rfl
attribute [local go_sem] Gf.xor_bits

set_option maxRecDepth 100000 in
set_option maxHeartbeats 1000000 in
theorem comb_any (x : UInt8) (gf : Nat) (t : TypeId) (f : List UInt8) (w : World) (h : BL w gf t (f.map B)) (hf : f.length = 64) :
  Calls Tryz.prog 101 #[B x, .pointer (some ⟨gf, 0, none⟩)] w fun e w' => e = .returned (.agg ((xr x f).map B).toArray) ∧ Below w.heap.size w w' := by
 have H := Lib.hid h
 have HF := Lib.hid hf
 clear h hf
 go_enter Tryz.func101, Tryz.ntmps101
 go_wp2_with (first
  | ((with_reducible show OpW 3); refine wpList_alloc _ rfl 168 rfl _ zero_arr ?_; intro w2 b1 b2 b3; have HB1 := Lib.hid b1; have HB2 := Lib.hid b2; clear b1 b2 b3)
  | ((with_reducible show OpW 6); refine wpList_loadv _ rfl 168 (.tmp 1) rfl 64 (by kernel_rfl) gf 0 (f.map B) rfl (BL.all (H.out.kept HB2.out)) (by rw [List.length_map]; exact HF.out) ?_))
 have HX0 : Hid (BL w2 w.heap.size 168 ((xpart x f 0).map B)) := Lib.hid (by rw [xpart_zero, HF.out]; exact HB1.out)
 go_loopw [7] (fun i wr => ∃ k : Nat, k ≤ 64 ∧ i = .int .i64 (k : Int) ∧ Hid (BL wr w.heap.size 168 ((xpart x f k).map B)) ∧ Hid (Below w.heap.size w wr)) (fun i _ => 64 - (intOf i).toNat)
 case atStart => exact ⟨0, by omega, rfl, HX0, HB2⟩
 case round =>
  obtain ⟨k, hk, rfl, hb, hw⟩ := hrel
  obtain ⟨wx, hwx⟩ : ∃ x, x = wr := ⟨_, rfl⟩
  rw [← hwx] at hb hw ⊢
  clear hwx
  by_cases hlt : k < 64
  ·
   have hlf : k < f.length := by rw [HF.out]; exact hlt
   have c1 := run_index (P := Tryz.prog) wx Tryz.underlying168 (by kernel_rfl) (by kernel_rfl) hlt (by rw [List.getElem?_toArray]; exact map_get_B f k hlf)
   have HLF := Lib.hid hlf
   have c2 := hb.out.frozen k
   have c3 : wx.cell? ⟨w.heap.size, k, none⟩ = some (B (gB (xpart x f k) k)) := hb.out.get (map_get_B _ k (by simp [xpart, xr]; omega))
   have HB3 : Hid (BL (wx.setCell ⟨w.heap.size, k, none⟩ (B (gB f k ^^^ x))) w.heap.size 168 ((xpart x f (k + 1)).map B)) := Lib.hid (by
    have := hb.out.set_ k (B (gB f k ^^^ x))
    rw [map_set_B, xpart_set x f k HLF.out] at this
    exact this)
   have HW3 : Hid (Below w.heap.size w (wx.setCell ⟨w.heap.size, k, none⟩ (B (gB f k ^^^ x)))) := Lib.hid (hw.out.setCell (Nat.le_refl _) _)
   clear hlf
   go_wp2_with fail
   clear c1 c2 c3
   generalize wx.setCell ⟨w.heap.size, k, none⟩ (B (gB f k ^^^ x)) = w8 at HB3 HW3 ⊢
   go_wp2_with fail
   go_roundw
   case rel => exact ⟨k + 1, by omega, by go_num, HB3, HW3⟩
   case measure => simp [intOf]; omega
  ·
   obtain rfl : k = 64 := by omega
   have hb2 := hb.out
   rw [← HF.out, xpart_all] at hb2
   have HB4 := Lib.hid hb2
   have HLX : Hid (((xr x f).map B).length = 64) := Lib.hid (by rw [List.length_map, xr_length]; exact HF.out)
   clear hb2
   go_wp2_with (first
    | ((with_reducible show OpW 17); refine wpList_loadv _ rfl 168 (.tmp 3) rfl 64 (by kernel_rfl) w.heap.size 0 ((xr x f).map B) rfl (BL.all HB4.out) HLX.out ?_)
    | ((with_reducible show OpN); refine wpList_storev _ rfl 168 (.tmp 3) (.tmp 17) rfl 64 (by kernel_rfl) w.heap.size 0 _ _ ((xr x f).map B) rfl rfl HB4.out HLX.out (oneB _) (by rw [HLX.out]; decide) ?_; intro w9 d1 d2 d3; rw [splice_all _ _ rfl] at d1))
   refine bodyPost_ret (results_at w9 Tryz.results101 (n := 64) (by kernel_rfl) (g := w.heap.size) (o := 0) rfl (BL.all d1) HLX.out) rfl ⟨rfl, ?_⟩
   exact ((Kp.of_below (S := fun _ => False) hw.out).after d2 (fun i hi e => by omega)).below (Nat.le_refl _) (fun _ h => h.elim)
end Go.Proofs.YtheijpjfpaghfaaGreatDoor
/- A region that draws its order in which two effects may change places: a text that forks. Proved for any program. -/
namespace Go.Proofs.YtheijpjfpaghfaaGreatDoor
open Go

namespace Text
variable {P : Program} {ops : Array Oper} {Q : Exit → Act → World → Prop} {S : World → Prop}

/-- A text that forks: operations that change nothing, an effect, or two effects of which either may come first. -/
inductive BT where
 | leaf : BT
 | still : Nat → Nat → BT → BT
 | eff : Nat → BT → BT
 | br : Nat → BT → Nat → BT → BT

/-- What is still to come, with its kind. -/
def BT.rem : BT → List (Nat × Nat)
 | .leaf => []
 | .still i k t => (i, k) :: t.rem
 | .eff i t => (i, 2) :: t.rem
 | .br i t _ _ => (i, 2) :: t.rem

def BT.okB (ops : Array Oper) (T : List (List Nat)) : BT → Bool
 | .leaf => true
 | .still i k t => (decide (k ≤ 1) || decide (4 ≤ k)) && t.rem.all (pairB ops T (i, k)) && t.okB ops T
 | .eff i t => t.rem.all (fun y => (T.getD y.1 []).contains i && !(preds ops i).contains y.1) && t.okB ops T
 | .br i t j u => i != j && t.rem.all (fun y => !(preds ops i).contains y.1 && (y.1 == j || (T.getD y.1 []).contains i || (T.getD y.1 []).contains j)) &&
   t.rem.contains (j, 2) && u.rem.contains (i, 2) && !(u.rem.map (·.1)).contains j &&
   t.rem.all (fun y => y.1 == j || u.rem.contains y) && u.rem.all (fun y => y.1 == i || t.rem.contains y) &&
   decide (u.rem.map (·.1)).Nodup && t.okB ops T && u.okB ops T

def wpBT (P : Program) (ops : Array Oper) (Q : Exit → Act → World → Prop) (S : World → Prop) : BT → Act → World → Prop
 | .leaf, a, w => Q .normal a w
 | .still i k t, a, w => ∃ o v, ops[i]? = some o ∧ Gives P ops S w k o v a ∧ wpBT P ops Q S t (a.put o.dst v) w
 | .eff i t, a, w => wpOp P ops Q i (fun a' w' => S w' ∧ wpBT P ops Q S t a' w') a w
 | .br i t j u, a, w => wpOp P ops Q i (fun a' w' => S w' ∧ wpBT P ops Q S t a' w') a w ∧ wpOp P ops Q j (fun a' w' => S w' ∧ wpBT P ops Q S u a' w') a w

/-- What is left of the text where i came first. -/
def BT.choose (i : Nat) : BT → BT
 | .leaf => .leaf
 | .still j k t => if i = j then t else .still j k (t.choose i)
 | .eff _ t => t
 | .br j t _ u => if i = j then t else u

theorem fst_inj {L : List (Nat × Nat)} (h : (L.map (·.1)).Nodup) {x y : Nat × Nat} (hx : x ∈ L) (hy : y ∈ L) (e : x.1 = y.1) : x = y := by
 induction L with
 | nil => cases hx
 | cons z L ih =>
  rw [List.map_cons, List.nodup_cons] at h
  rcases List.mem_cons.1 hx with ex | hx' <;> rcases List.mem_cons.1 hy with ey | hy'
  ·
   rw [ex, ey]
  ·
   subst ex; exact absurd (List.mem_map.2 ⟨y, hy', e.symm⟩) h.1
  ·
   subst ey; exact absurd (List.mem_map.2 ⟨x, hx', e⟩) h.1
  ·
   exact ih h.2 hx' hy'
theorem nodup_of_fst {L : List (Nat × Nat)} (h : (L.map (·.1)).Nodup) : L.Nodup := List.Pairwise.of_map (·.1) (fun _ _ h e => h (by rw [e])) h

theorem choose_spec {T : List (List Nat)} (i k : Nat) : ∀ (t : BT), t.okB ops T = true → (t.rem.map (·.1)).Nodup → (i, k) ∈ t.rem → (∀ x ∈ t.rem, x.1 ≠ i → (T.getD i []).contains x.1 = false) →
  (∀ y, y ∈ (t.choose i).rem ↔ y ∈ t.rem ∧ y.1 ≠ i) ∧ (t.choose i).okB ops T = true ∧ ((t.choose i).rem.map (·.1)).Nodup := by
 intro t
 induction t with
 | leaf => intro _ _ hm; cases hm
 | still j kj t ih =>
  intro hok hnd hm hfr
  simp only [BT.okB, Bool.and_eq_true, List.all_eq_true] at hok
  have hnd' := hnd
  simp only [BT.rem, List.map_cons, List.nodup_cons] at hnd
  by_cases e : i = j
  ·
   subst e
   simp only [BT.choose, if_true]
   refine ⟨fun y => ⟨fun hy => ⟨List.mem_cons_of_mem _ hy, fun e => hnd.1 (e ▸ List.mem_map_of_mem hy)⟩, fun ⟨hy, hne⟩ => ?_⟩, hok.2, hnd.2⟩
   rcases List.mem_cons.1 hy with rfl | hy
   ·
    exact absurd rfl hne
   ·
    exact hy
  ·
   have hm' : (i, k) ∈ t.rem := by
    rcases List.mem_cons.1 hm with h | h
    ·
     injection h with h _; exact absurd h e
    ·
     exact h
   obtain ⟨h1, h2, h3⟩ := ih hok.2 hnd.2 hm' (fun x hx => hfr x (List.mem_cons_of_mem _ hx))
   simp only [BT.choose, if_neg e]
   refine ⟨fun y => ?_, ?_, ?_⟩
   ·
    simp only [BT.rem, List.mem_cons, h1]
    constructor
    ·
     rintro (rfl | ⟨h, h'⟩)
     ·
      exact ⟨.inl rfl, fun e' => e e'.symm⟩
     ·
      exact ⟨.inr h, h'⟩
    ·
     rintro ⟨rfl | h, h'⟩
     ·
      exact .inl rfl
     ·
      exact .inr ⟨h, h'⟩
   ·
    simp only [BT.okB, Bool.and_eq_true, List.all_eq_true]
    exact ⟨⟨hok.1.1, fun y hy => hok.1.2 y ((h1 y).1 hy).1⟩, h2⟩
   ·
    simp only [BT.rem, List.map_cons, List.nodup_cons]
    refine ⟨fun hj => hnd.1 ?_, h3⟩
    obtain ⟨y, hy, hye⟩ := List.mem_map.1 hj
    exact hye ▸ List.mem_map_of_mem ((h1 y).1 hy).1
 | eff j t ih =>
  intro hok hnd hm hfr
  simp only [BT.okB, Bool.and_eq_true, List.all_eq_true] at hok
  simp only [BT.rem, List.map_cons, List.nodup_cons] at hnd
  have e : i = j := by
   rcases List.mem_cons.1 hm with h | h
   ·
    injection h
   ·
    by_cases e : i = j
    ·
     exact e
    ·
     have := hfr (j, 2) (by simp [BT.rem]) (fun e' => e e'.symm)
     rw [(hok.1 _ h).1] at this
     cases this
  subst e
  refine ⟨fun y => ⟨fun hy => ⟨List.mem_cons_of_mem _ hy, fun e => hnd.1 (e ▸ List.mem_map_of_mem hy)⟩, fun ⟨hy, hne⟩ => ?_⟩, hok.2, hnd.2⟩
  rcases List.mem_cons.1 hy with rfl | hy
  ·
   exact absurd rfl hne
  ·
   exact hy
 | br j t l u iht ihu =>
  intro hok hnd hm hfr
  simp only [BT.okB, Bool.and_eq_true, List.all_eq_true, decide_eq_true_eq, Bool.or_eq_true, beq_iff_eq, bne_iff_ne, List.contains_iff_mem, Bool.not_eq_true'] at hok
  obtain ⟨⟨⟨⟨⟨⟨⟨⟨⟨hjl, hall⟩, hlt⟩, hju⟩, hlu⟩, htu⟩, hut⟩, hndu⟩, hokt⟩, hoku⟩ := hok
  simp only [BT.rem, List.map_cons, List.nodup_cons] at hnd
  by_cases e : i = j
  ·
   subst e
   simp only [BT.choose, if_true]
   refine ⟨fun y => ⟨fun hy => ⟨List.mem_cons_of_mem _ hy, fun e => hnd.1 (e ▸ List.mem_map_of_mem hy)⟩, fun ⟨hy, hne⟩ => ?_⟩, hokt, hnd.2⟩
   rcases List.mem_cons.1 hy with rfl | hy
   ·
    exact absurd rfl hne
   ·
    exact hy
  ·
   have hm' : (i, k) ∈ t.rem := by
    rcases List.mem_cons.1 hm with h | h
    ·
     injection h with h _; exact absurd h e
    ·
     exact h
   have e2 : i = l := by
    by_cases e2 : i = l
    ·
     exact e2
    ·
     exfalso
     rcases (hall _ hm').2 with (h | h) | h
     ·
      exact e2 h
     ·
      have := hfr (j, 2) (by simp [BT.rem]) (fun e' => e e'.symm)
      rw [List.contains_iff_mem.2 h] at this; cases this
     ·
      have := hfr (l, 2) (List.mem_cons_of_mem _ hlt) (fun e' => e2 e'.symm)
      rw [List.contains_iff_mem.2 h] at this; cases this
   subst e2
   simp only [BT.choose, if_neg e]
   refine ⟨fun y => ⟨fun hy => ?_, fun ⟨hy, hne⟩ => ?_⟩, hoku, hndu⟩
   ·
    have hyi : y.1 ≠ i := fun e' => by
     have := List.mem_map_of_mem (f := (·.1)) hy
     rw [e', ← List.contains_iff_mem, hlu] at this; cases this
    rcases hut y hy with h | h
    ·
     have : y = (j, 2) := fst_inj hndu hy hju h
     exact ⟨by rw [this]; simp [BT.rem], hyi⟩
    ·
     exact ⟨List.mem_cons_of_mem _ h, hyi⟩
   ·
    rcases List.mem_cons.1 hy with rfl | hy
    ·
     exact hju
    ·
     rcases htu y hy with h | h
     ·
      exact absurd h hne
     ·
      exact h

theorem front_bt {T : List (List Nat)} (i k : Nat) (hk : k ≤ 1 ∨ 4 ≤ k) (oi : Oper) (hoi : ops[i]? = some oi) (hsel : ∀ (j : Nat) (o : Oper) cs b, ops[j]? = some o → o.op ≠ .select cs b) (w : World) :
  ∀ (t : BT) (a : Act), t.okB ops T = true → (t.rem.map (·.1)).Nodup → (i, k) ∈ t.rem → (∀ x ∈ t.rem, x.1 ≠ i → (T.getD i []).contains x.1 = false) → wpBT P ops Q S t a w →
   ∃ v, Gives P ops S w k oi v a ∧ wpBT P ops Q S (t.choose i) (a.put oi.dst v) w := by
 intro t
 induction t with
 | leaf => intro _ _ _ hm; cases hm
 | still j kj t ih =>
  intro a hok hnd hm hfr h
  simp only [BT.okB, Bool.and_eq_true, List.all_eq_true] at hok
  have hnd0 := hnd
  simp only [BT.rem, List.map_cons, List.nodup_cons] at hnd
  obtain ⟨oj, vj, hoj, hy, hr⟩ := h
  by_cases e : i = j
  ·
   subst e
   obtain rfl : k = kj := by
    have := fst_inj hnd0 hm (show (i, kj) ∈ BT.rem (.still i kj t) by simp [BT.rem]) rfl
    injection this
   obtain rfl : oj = oi := Option.some.inj (hoj.symm.trans hoi)
   simp only [BT.choose, if_true]
   exact ⟨vj, hy, hr⟩
  ·
   have hm' : (i, k) ∈ t.rem := by
    rcases List.mem_cons.1 hm with h | h
    ·
     injection h with h _; exact absurd h e
    ·
     exact h
   have hp := hok.1.2 _ hm'
   simp only [pairB, Bool.and_eq_true, Bool.or_eq_true, hoi, hoj] at hp
   have hap : oj.apart ops oi = true := by
    rcases hp.2 with h | h
    ·
     have := hfr (j, kj) (by simp [BT.rem]) (fun e' => e e'.symm)
     rw [h] at this; cases this
    ·
     exact h.2
   obtain ⟨h1, h2, h3⟩ := Oper.apart_spec hap
   obtain ⟨v, y0, hr'⟩ := ih _ hok.2 hnd.2 hm' (fun x hx => hfr x (List.mem_cons_of_mem _ hx)) hr
   have hsi := fun cs b => hsel i oi cs b hoi
   simp only [BT.choose, if_neg e]
   refine ⟨v, y0.of_same (execOp_put oi hsi a oj.dst vj h1).symm (wanted_put oi a oj.dst vj h1).symm, oj, vj, hoj, hy.of_same (execOp_put oj (fun cs b => hsel j oj cs b hoj) a oi.dst v h3) (wanted_put oj a oi.dst v h3), ?_⟩
   rw [← Act.put_comm a vj v h2]
   exact hr'
 | eff j t ih =>
  intro a hok hnd hm hfr h
  exfalso
  simp only [BT.okB, Bool.and_eq_true, List.all_eq_true] at hok
  rcases List.mem_cons.1 hm with h | h
  ·
   injection h with _ h; omega
  ·
   have := hfr (j, 2) (by simp [BT.rem]) (fun e' => by
    simp only [BT.rem, List.map_cons, List.nodup_cons] at hnd
    exact hnd.1 (List.mem_map.2 ⟨_, h, e'.symm⟩))
   rw [(hok.1 _ h).1] at this
   cases this
 | br j t l u iht ihu =>
  intro a hok hnd hm hfr h
  exfalso
  simp only [BT.okB, Bool.and_eq_true, List.all_eq_true, decide_eq_true_eq, Bool.or_eq_true, beq_iff_eq, bne_iff_ne, List.contains_iff_mem, Bool.not_eq_true'] at hok
  obtain ⟨⟨⟨⟨⟨⟨⟨⟨⟨hjl, hall⟩, hlt⟩, hju⟩, hlu⟩, htu⟩, hut⟩, hndu⟩, hokt⟩, hoku⟩ := hok
  have hnd0 := hnd
  simp only [BT.rem, List.map_cons, List.nodup_cons] at hnd
  rcases List.mem_cons.1 hm with h | h
  ·
   injection h with _ h; omega
  ·
   have hij : i ≠ j := fun e => hnd.1 (List.mem_map.2 ⟨_, h, e⟩)
   have hil : i ≠ l := fun e => by
    have := fst_inj hnd.2 h hlt e
    injection this with _ this; omega
   rcases (hall _ h).2 with (h' | h') | h'
   ·
    exact hil h'
   ·
    have := hfr (j, 2) (by simp [BT.rem]) (fun e' => hij e'.symm)
    rw [List.contains_iff_mem.2 h'] at this; cases this
   ·
    have := hfr (l, 2) (List.mem_cons_of_mem _ hlt) (fun e' => hil e'.symm)
    rw [List.contains_iff_mem.2 h'] at this; cases this

theorem front_be {T : List (List Nat)} (i : Nat) (oi : Oper) (hoi : ops[i]? = some oi) (hsel : ∀ (j : Nat) (o : Oper) cs b, ops[j]? = some o → o.op ≠ .select cs b)
  (hQ : ∀ c a w (d : Tmp) v, Q (.panic c) (a.put (some d) v) w → Q (.panic c) a w) (w : World) :
  ∀ (t : BT) (a : Act), t.okB ops T = true → (t.rem.map (·.1)).Nodup → (i, 2) ∈ t.rem → (∀ x ∈ t.rem, x.1 ≠ i → (T.getD i []).contains x.1 = false) → wpBT P ops Q S t a w →
   wpOp P ops Q i (fun a' w' => S w' ∧ wpBT P ops Q S (t.choose i) a' w') a w := by
 intro t
 induction t with
 | leaf => intro _ _ _ hm; cases hm
 | still j kj t ih =>
  intro a hok hnd hm hfr h
  simp only [BT.okB, Bool.and_eq_true, List.all_eq_true, Bool.or_eq_true, decide_eq_true_eq] at hok
  simp only [BT.rem, List.map_cons, List.nodup_cons] at hnd
  obtain ⟨oj, vj, hoj, hy, hr⟩ := h
  have e : i ≠ j := fun e => by
   rcases List.mem_cons.1 hm with h | h
   ·
    injection h with _ h; omega
   ·
    exact hnd.1 (List.mem_map.2 ⟨_, h, e⟩)
  have hm' : (i, 2) ∈ t.rem := by
   rcases List.mem_cons.1 hm with h | h
   ·
    injection h with h _; exact absurd h e
   ·
    exact h
  have hp := hok.1.2 _ hm'
  simp only [pairB, Bool.and_eq_true, Bool.or_eq_true, hoi, hoj] at hp
  have hsw : swapB kj 2 = true ∧ oj.apart ops oi = true := by
   rcases hp.2 with h | h
   ·
    have := hfr (j, kj) (by simp [BT.rem]) (fun e' => e e'.symm)
    rw [h] at this; cases this
   ·
    exact h
  have hap := hsw.2
  have hkj : kj = 0 ∨ 4 ≤ kj := by
   have := hsw.1
   simp only [swapB, Bool.or_eq_true, Bool.and_eq_true, decide_eq_true_eq, beq_iff_eq, bne_iff_ne] at this
   omega
  have hr' := ih _ hok.2 hnd.2 hm' (fun x hx => hfr x (List.mem_cons_of_mem _ hx)) hr
  have hq : ∀ c a w, Q (.panic c) (a.put oj.dst vj) w → Q (.panic c) a w := fun c a w hq => by
   cases hd : oj.dst with
   | none => rw [hd] at hq; exact hq
   | some d => rw [hd] at hq; exact hQ c a w d _ hq
  have hsj := fun cs b => hsel j oj cs b hoj
  have hsi := fun cs b => hsel i oi cs b hoi
  simp only [BT.choose, if_neg e]
  rcases hkj with rfl | h4
  ·
   have h2 := wpOp_putIf (S := S) hoi hap hsj hsi hq (hy.1 rfl) hr'
   exact wpOp_mono (fun a' w' h3 => ⟨h3.2.1, oj, vj, hoj, ⟨fun _ => h3.1, fun e => absurd e (by omega), fun e => absurd e (by omega)⟩, h3.2.2⟩) h2
  ·
   have h2 := wpOp_put hoi hap hsj hsi hq (hy.2.2 h4) hr'
   exact wpOp_mono (fun a' w' h3 => ⟨h3.2.1, oj, vj, hoj, ⟨fun e => absurd e (by omega), fun e => absurd e (by omega), fun _ => h3.1⟩, h3.2.2⟩) h2
 | eff j t ih =>
  intro a hok hnd hm hfr h
  simp only [BT.okB, Bool.and_eq_true, List.all_eq_true] at hok
  have e : i = j := by
   rcases List.mem_cons.1 hm with h | h
   ·
    injection h
   ·
    by_cases e : i = j
    ·
     exact e
    ·
     have := hfr (j, 2) (by simp [BT.rem]) (fun e' => e e'.symm)
     rw [(hok.1 _ h).1] at this
     cases this
  subst e
  exact h
 | br j t l u iht ihu =>
  intro a hok hnd hm hfr h
  simp only [BT.okB, Bool.and_eq_true, List.all_eq_true, decide_eq_true_eq, Bool.or_eq_true, beq_iff_eq, bne_iff_ne, List.contains_iff_mem, Bool.not_eq_true'] at hok
  obtain ⟨⟨⟨⟨⟨⟨⟨⟨⟨hjl, hall⟩, hlt⟩, hju⟩, hlu⟩, htu⟩, hut⟩, hndu⟩, hokt⟩, hoku⟩ := hok
  by_cases e : i = j
  ·
   subst e
   simp only [BT.choose, if_true]
   exact h.1
  ·
   have hm' : (i, 2) ∈ t.rem := by
    rcases List.mem_cons.1 hm with h | h
    ·
     injection h with h _; exact absurd h e
    ·
     exact h
   have e2 : i = l := by
    by_cases e2 : i = l
    ·
     exact e2
    ·
     exfalso
     rcases (hall _ hm').2 with (h | h) | h
     ·
      exact e2 h
     ·
      have := hfr (j, 2) (by simp [BT.rem]) (fun e' => e e'.symm)
      rw [List.contains_iff_mem.2 h] at this; cases this
     ·
      have := hfr (l, 2) (List.mem_cons_of_mem _ hlt) (fun e' => e2 e'.symm)
      rw [List.contains_iff_mem.2 h] at this; cases this
   subst e2
   simp only [BT.choose, if_neg e]
   exact h.2

structure InvT (ops : Array Oper) (t : BT) (listed : Array Bool) : Prop where
 size : listed.size = ops.size
 mem : ∀ i, i ∈ t.rem.map (·.1) ↔ i < ops.size ∧ listed.getD i false = false
 nodup : (t.rem.map (·.1)).Nodup
 closed : Closed ops listed
 ok : t.okB ops (tbl ops ops.size) = true
 inside : ∀ x ∈ t.rem, ∀ p ∈ preds ops x.1, p < ops.size ∧ p ≠ x.1
 kinds : ∀ x ∈ t.rem, x.2 ≤ 2 ∨ 4 ≤ x.2

theorem InvT.head {t : BT} {listed : Array Bool} (h : InvT ops t listed) (x : Nat × Nat) (hx : x ∈ t.rem) (hp : ∀ y ∈ t.rem, y.1 ≠ x.1 → (preds ops x.1).contains y.1 = false) : x.1 ∈ Region.ready .any ops listed := by
 have hx' := (h.mem x.1).1 (List.mem_map_of_mem hx)
 obtain ⟨o, ho⟩ : ∃ o, ops[x.1]? = some o := ⟨_, Array.getElem?_eq_getElem hx'.1⟩
 refine mem_ready.2 ⟨by rw [getD_true_false (by rw [h.size]; exact hx'.1)]; exact hx'.2, o, ho, fun e he hb => ?_⟩
 have hpm := mem_preds ho he hb
 obtain ⟨h1, h2⟩ := h.inside x hx e.on hpm
 cases hl : listed.getD e.on false with
 | true => rfl
 | false =>
  obtain ⟨y, hy, hye⟩ := List.mem_map.1 ((h.mem e.on).2 ⟨h1, hl⟩)
  have := hp y hy (by show y.1 ≠ x.1; rw [hye]; exact h2)
  rw [hye, List.contains_iff_mem.2 hpm] at this
  cases this

theorem InvT.ready {t : BT} {listed : Array Bool} (h : InvT ops t listed) (hne : t.rem ≠ []) : Region.ready .any ops listed ≠ [] := by
 have hok := h.ok
 have : ∃ i, i ∈ Region.ready .any ops listed := by
  cases t with
  | leaf => exact absurd rfl hne
  | still i k t =>
   simp only [BT.okB, Bool.and_eq_true, List.all_eq_true] at hok
   refine ⟨i, h.head (i, k) (by simp [BT.rem]) (fun y hy hy' => ?_)⟩
   rcases List.mem_cons.1 hy with rfl | hy
   ·
    exact absurd rfl hy'
   ·
    have := hok.1.2 y hy
    simp only [pairB, Bool.and_eq_true, Bool.not_eq_true'] at this
    exact this.1.1
  | eff i t =>
   simp only [BT.okB, Bool.and_eq_true, List.all_eq_true, Bool.not_eq_true'] at hok
   refine ⟨i, h.head (i, 2) (by simp [BT.rem]) (fun y hy hy' => ?_)⟩
   rcases List.mem_cons.1 hy with rfl | hy
   ·
    exact absurd rfl hy'
   ·
    exact (hok.1 y hy).2
  | br i t j u =>
   simp only [BT.okB, Bool.and_eq_true, List.all_eq_true, Bool.not_eq_true'] at hok
   refine ⟨i, h.head (i, 2) (by simp [BT.rem]) (fun y hy hy' => ?_)⟩
   rcases List.mem_cons.1 hy with rfl | hy
   ·
    exact absurd rfl hy'
   ·
    exact (hok.1.1.1.1.1.1.1.1.2 y hy).1
 obtain ⟨i, hi⟩ := this
 intro e
 rw [e] at hi
 cases hi

theorem InvT.front {t : BT} {listed : Array Bool} {i : Nat} (h : InvT ops t listed) (hr : i ∈ Region.ready .any ops listed) (hil : i < ops.size) :
  Closed ops (listed.setIfInBounds i true) ∧ ∀ x ∈ t.rem, x.1 ≠ i → ((tbl ops ops.size).getD i []).contains x.1 = false := by
 have hc2 : Closed ops (listed.setIfInBounds i true) := by
  intro j p hp hl
  by_cases e : i = j
  ·
   subst e
   obtain ⟨_, o, ho, hall⟩ := mem_ready.1 hr
   obtain ⟨o', ed, ho', he, hb, rfl⟩ := of_preds hp
   obtain rfl : o = o' := Option.some.inj (ho.symm.trans ho')
   exact getD_set_true (hall ed he hb)
  ·
   rw [getD_set_ne false e] at hl
   exact getD_set_true (h.closed j p hp hl)
 refine ⟨hc2, fun x hx hne => ?_⟩
 rw [Bool.eq_false_iff]
 intro hmem
 have hl := tbl_sound hc2 _ i x.1 (List.contains_iff_mem.1 hmem) (by simp [h.size, hil])
 have hxl := (h.mem x.1).1 (List.mem_map_of_mem hx)
 rw [getD_set_ne false (fun e => hne e.symm), hxl.2] at hl
 cases hl

theorem InvT.step {t : BT} {listed : Array Bool} {i k : Nat} (h : InvT ops t listed) (hm : (i, k) ∈ t.rem) (hr : i ∈ Region.ready .any ops listed) : InvT ops (t.choose i) (listed.setIfInBounds i true) ∧ (t.choose i).rem.length + 1 = t.rem.length := by
 have hil : i < ops.size := ((h.mem i).1 (List.mem_map.2 ⟨_, hm, rfl⟩)).1
 obtain ⟨hc2, hfr⟩ := h.front hr hil
 obtain ⟨h1, h2, h3⟩ := choose_spec i k t h.ok h.nodup hm hfr
 refine ⟨⟨by simp [h.size], fun j => ?_, h3, hc2, h2, fun x hx => h.inside x ((h1 x).1 hx).1, fun x hx => h.kinds x ((h1 x).1 hx).1⟩, ?_⟩
 ·
  constructor
  ·
   intro hj
   obtain ⟨y, hy, rfl⟩ := List.mem_map.1 hj
   obtain ⟨hy1, hy2⟩ := (h1 y).1 hy
   have := (h.mem y.1).1 (List.mem_map_of_mem hy1)
   exact ⟨this.1, by rw [getD_set_ne false (fun e => hy2 e.symm)]; exact this.2⟩
  ·
   rintro ⟨hj, hl⟩
   have hne : j ≠ i := fun e => by
    subst e
    simp [h.size, hj] at hl
   rw [getD_set_ne false (fun e => hne e.symm)] at hl
   obtain ⟨y, hy, rfl⟩ := List.mem_map.1 ((h.mem j).2 ⟨hj, hl⟩)
   exact List.mem_map_of_mem ((h1 y).2 ⟨hy, hne⟩)
 ·
  have hp : t.rem.Perm ((i, k) :: (t.choose i).rem) := by
   have n1 : t.rem.Nodup := nodup_of_fst h.nodup
   have n2 : (t.choose i).rem.Nodup := nodup_of_fst h3
   refine (List.perm_ext_iff_of_nodup n1 (List.nodup_cons.2 ⟨fun hh => ((h1 _).1 hh).2 rfl, n2⟩)).2 (fun y => ?_)
   simp only [List.mem_cons, h1]
   constructor
   ·
    intro hy
    by_cases e : y.1 = i
    ·
     exact .inl (fst_inj h.nodup hy hm e)
    ·
     exact .inr ⟨hy, e⟩
   ·
    rintro (rfl | ⟨hy, _⟩)
    ·
     exact hm
    ·
     exact hy
  have := hp.length_eq
  simp only [List.length_cons] at this
  omega

theorem wpAny_of_bt (hsel : ∀ (j : Nat) (o : Oper) cs b, ops[j]? = some o → o.op ≠ .select cs b) (hQ : ∀ c a w (d : Tmp) v, Q (.panic c) (a.put (some d) v) w → Q (.panic c) a w) :
  ∀ (n : Nat) (t : BT) (listed : Array Bool) (a : Act) (w : World), t.rem.length = n → InvT ops t listed → S w → wpBT P ops Q S t a w → wpAny P .any ops Q n listed a w
 | 0, t, listed, a, w, hn, inv, _, h => by
  have hnil := List.eq_nil_of_length_eq_zero hn
  have hleaf : t = .leaf := by cases t <;> simp [BT.rem] at hnil; rfl
  subst hleaf
  refine ⟨?_, h⟩
  cases hrd : Region.ready .any ops listed with
  | nil => rfl
  | cons j js =>
   have hj : j ∈ Region.ready .any ops listed := by rw [hrd]; simp
   obtain ⟨h1, o, ho, _⟩ := mem_ready.1 hj
   have hlt : j < ops.size := (Array.getElem?_eq_some_iff.1 ho).1
   have := (inv.mem j).2 ⟨hlt, by rw [← getD_true_false (by rw [inv.size]; exact hlt)]; exact h1⟩
   simp [BT.rem] at this
 | n + 1, t, listed, a, w, hn, inv, hS, h => by
  refine ⟨fun h0 => absurd h0 (inv.ready (fun e => by rw [e] at hn; cases hn)), fun i hi => ?_⟩
  obtain ⟨h1, oi, hoi, _⟩ := mem_ready.1 hi
  have hlt : i < ops.size := (Array.getElem?_eq_some_iff.1 hoi).1
  obtain ⟨⟨i', k⟩, hx, rfl⟩ := List.mem_map.1 ((inv.mem i).2 ⟨hlt, by rw [← getD_true_false (by rw [inv.size]; exact hlt)]; exact h1⟩)
  obtain ⟨inv', hlen⟩ := inv.step hx hi
  have hfr := (inv.front hi hlt).2
  have go : wpOp P ops Q i' (fun a' w' => S w' ∧ wpBT P ops Q S (t.choose i') a' w') a w := by
   by_cases hk : k ≤ 1 ∨ 4 ≤ k
   ·
    obtain ⟨v, y0, hr⟩ := front_bt i' k hk oi hoi hsel w t a inv.ok inv.nodup hx hfr h
    rcases hk with hk | hk
    ·
     rcases Nat.le_one_iff_eq_zero_or_eq_one.1 hk with rfl | rfl
     ·
      exact (y0.1 rfl).wpOp hoi hS ⟨hS, hr⟩
     ·
      exact wpOp_of_yieldsAt hoi (y0.2.1 rfl) ⟨hS, hr⟩
    ·
     exact (y0.2.2 hk).wpOp hoi ⟨hS, hr⟩
   ·
    have hk2 : k = 2 := by
     have := inv.kinds _ hx
     simp only at this
     omega
    subst hk2
    exact front_be i' oi hoi hsel hQ w t a inv.ok inv.nodup hx hfr h
  exact wpOp_mono (fun a' w' h' => wpAny_of_bt hsel hQ n (t.choose i') _ a' w' (by omega) inv' h'.1 h'.2) go

def btB (ops : Array Oper) (t : BT) : Bool :=
 Region.noSelect ops && (List.range ops.size).all (fun i => (t.rem.map (·.1)).contains i) && t.rem.all (fun x => decide (x.1 < ops.size) && (decide (x.2 ≤ 2) || decide (4 ≤ x.2)) && (preds ops x.1).all (fun p => decide (p < ops.size) && p != x.1)) &&
  decide (t.rem.map (·.1)).Nodup && decide (t.rem.length = ops.size) && t.okB ops (tbl ops ops.size)

/-- THE RULE. -/
theorem wp_region_bt {id : Nat} {a : Act} {w : World} (S : World → Prop) (t : BT) (hm : P.follows .mixedOrders = true) (hB : btB ops t = true)
  (hQ : ∀ c a w (d : Tmp) v, Q (.panic c) (a.put (some d) v) w → Q (.panic c) a w) (hS : S w.drew) (h : wpBT P ops Q S t a w.drew) : (Code.region id ops true).wp P Q a w := by
 simp only [btB, Bool.and_eq_true, decide_eq_true_eq] at hB
 obtain ⟨⟨⟨⟨⟨h1, h2⟩, h3⟩, h4⟩, hlen⟩, h5⟩ := hB
 refine wp_region_any hm ?_
 refine wpAny_of_bt (S := S) (Region.noSelect_spec h1) hQ ops.size t _ a _ hlen ⟨by simp, fun i => ?_, h4, fun j p hp hl => ?_, h5, fun x hx p hp => ?_, fun x hx => ?_⟩ hS h
 ·
  rw [getD_replicate_false]
  constructor
  ·
   intro hi
   obtain ⟨x, hx, rfl⟩ := List.mem_map.1 hi
   have := List.all_eq_true.1 h3 x hx
   simp only [Bool.and_eq_true, decide_eq_true_eq] at this
   exact ⟨this.1.1, rfl⟩
  ·
   rintro ⟨hi, _⟩
   have := List.all_eq_true.1 h2 i (List.mem_range.2 hi)
   simpa using this
 ·
  rw [getD_replicate_false] at hl; cases hl
 ·
  have := List.all_eq_true.1 h3 x hx
  simp only [Bool.and_eq_true] at this
  have h6 := List.all_eq_true.1 this.2 p hp
  simp only [Bool.and_eq_true, decide_eq_true_eq] at h6
  exact ⟨h6.1, by simpa using h6.2⟩
 ·
  have := List.all_eq_true.1 h3 x hx
  simp only [Bool.and_eq_true, Bool.or_eq_true, decide_eq_true_eq] at this
  exact this.1.2

section bsteps
variable {a : Act} {w : World} {t u : BT} {i j : Nat}
theorem bpurek {o : Oper} (ho : ops[i]? = some o) (hw : Region.wanted o (yielded ops a.tmps) = true)
  (h : ∀ K : Act → Prop, (∀ a, wpBT P ops Q S t a w → K a) → ∃ v, (∀ w, (execOp a.eval o).run P w = .ok (.value v) w) ∧ K (a.put o.dst v)) : wpBT P ops Q S (.still i 4 t) a w := by
 obtain ⟨v, h1, h2⟩ := h _ (fun _ h => h)
 exact ⟨o, v, ho, ⟨fun e => absurd e (by decide), fun e => absurd e (by decide), fun _ => .inl ⟨hw, h1⟩⟩, h2⟩
theorem bheldk {o : Oper} (ho : ops[i]? = some o) (hw : Region.wanted o (yielded ops a.tmps) = true)
  (h : ∀ K : Act → Prop, (∀ a, wpBT P ops Q S t a w → K a) → ∃ v, (∀ w, S w → (execOp a.eval o).run P w = .ok (.value v) w) ∧ K (a.put o.dst v)) : wpBT P ops Q S (.still i 0 t) a w := by
 obtain ⟨v, h1, h2⟩ := h _ (fun _ h => h)
 exact ⟨o, v, ho, ⟨fun _ => .inl ⟨hw, h1⟩, fun e => absurd e (by decide), fun e => absurd e (by decide)⟩, h2⟩
theorem beff {o : Oper} (ho : ops[i]? = some o) (hg : o.guard = none) (h : ∀ K : Act → World → Prop, (∀ a w, S w → wpBT P ops Q S t a w → K a w) → o.wp P a w K NoQ) : wpBT P ops Q S (.eff i t) a w := by
 show wpOp P ops Q i (fun a' w' => S w' ∧ wpBT P ops Q S t a' w') a w
 unfold wpOp
 simp only [ho]
 rw [if_pos (by simp [Region.wanted, hg])]
 exact .inl (wp_of_noQ (h _ fun _ _ h1 h2 => ⟨h1, h2⟩))
theorem bfork (h1 : wpBT P ops Q S (.eff i t) a w) (h2 : wpBT P ops Q S (.eff j u) a w) : wpBT P ops Q S (.br i t j u) a w := ⟨h1, h2⟩
theorem bdone (h : Q .normal a w) : wpBT P ops Q S .leaf a w := h
end bsteps
attribute [irreducible] wpBT
end Text
end Go.Proofs.YtheijpjfpaghfaaGreatDoor
