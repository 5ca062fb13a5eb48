/- Several texts in one: Hm2, Grow, Uv, Gk, Rr, Tkr. -/
import Derived.Test.YtgoefpbicohkfaaGreatDoorC7
import Derived.Test.YtgoefpbicohkfaaGreatDoorC5
import Derived.Test.YtgoefpbicohkfaaGreatDoorC4
import Derived.Deep.AppendSrc
import Derived.Lib.AppendStr
import Derived.Test.YtgoefpbicohkfaaGreatDoorC1
import Derived.Test.YtgoefpbicohkfaaGreatDoorC2
import Derived.Deep.QuietTactic
import Derived.BigQuiet
import Derived.Test.YtgoefpbicohkfaaGreatDoorC6
/- Contracts of Mac.Write, Mac.Sum, hmac.Tag, hmac.Equal. -/
namespace Go.Proofs.YtgoefpbicohkfaaGreatDoor
open Go.RowKit Gf Sha

set_option maxHeartbeats 400000 in
theorem mwrite_any (g n c : Nat) (A : Option Addr) (k l x : List UInt8) (w : World) (hm : Mc w g k l) (h : BS w A n c x) (hT : Tabs w) (hg : 2 < g) (hA : FarB A n (· = g)) (hk : k.length ≤ 64) (hN : l.length + n ≤ 1125899906842624) :
    Calls Tryz.prog 65 #[.pointer (some ⟨g, 0, none⟩), .slice A n c] w fun e w' => e = .returned (.tuple #[]) ∧ Mc w' g k (l ++ x) ∧ Kp (· = g) w w' := by
  have HM := Lib.hid hm
  have H := Lib.hid h
  have HT := Lib.hid hT
  have HA := Lib.hid hA
  have HL : Hid ((xr 54 (keyp k) ++ l).length + n ≤ 1152921504606846976) := Lib.hid (by rw [List.length_append, xr_length, keyp_length k hk]; omega)
  clear hm h hT hA
  go_enter Tryz.func65, Tryz.ntmps65
  go_wp2_with (go_at_call 83; refine (write_any g n c A 132 (xr 54 (keyp k) ++ l) x _ w HM.out H.out HT.out hg HA.out HL.out).mono ?_; rintro e w3 ⟨rfl, r1, r2⟩)
  go_end0
  exact ⟨rfl, by unfold Mc; rw [← List.append_assoc]; exact r1, r2⟩

set_option maxRecDepth 100000 in
set_option maxHeartbeats 1000000 in
theorem msum_any (g : Nat) (k l : List UInt8) (w : World) (hm : Mc w g k l) (hT : Tabs w) (hk : k.length ≤ 64) (hN : l.length ≤ 562949953421312) :
    Calls Tryz.prog 66 #[.pointer (some ⟨g, 0, none⟩)] w fun e w' => e = .returned (.string (strB (tagL k l))) ∧ Below w.heap.size w w' := by
  have HT := Lib.hid hT
  have HM := Lib.hid hm
  have HK := Lib.hid hk
  have HN : Hid ((xr 54 (keyp k) ++ l).length ≤ 1125899906842624) := Lib.hid (by rw [List.length_append, xr_length, keyp_length k hk]; omega)
  obtain ⟨bf, s1, s2, s3⟩ := hm
  have HOB : Hid (∀ w', Below w.heap.size w w' → (convert 24 9 (.slice (some ⟨g, 73, none⟩) 64 64)).run Tryz.prog w' = .ok (.string (strB (xr 92 (keyp k)))) w') := Lib.hid (fun w' hb => conv_str ⟨by rw [xr_length]; exact keyp_length k hk, Nat.le_refl _, by decide, fun j hj => ⟨g, 73, rfl, by
    have h9 := s2.kept hb
    rw [stv_first] at h9
    refine h9.get ?_
    have e73 := stv_first_length (hs (xr 54 (keyp k) ++ l)) bf (xr 54 (keyp k) ++ l).length s1
    rw [List.getElem?_append_right (by omega), e73, show 73 + j - 73 = j by omega]
    exact map_get_B _ j (by rw [xr_length, keyp_length k hk]; exact hj)⟩⟩)
  clear hT s1 s2 s3
  have hcv := HOB.out w (Below.refl _ _)
  have hL1 : ∀ j, j < 2 → (gR [xr 92 (keyp k), sha (xr 54 (keyp k) ++ l)] j).length ≤ lim := by
    intro j hj
    match j, hj with
    | 0, _ => show (xr 92 (keyp k)).length ≤ lim; rw [xr_length, keyp_length k hk]; decide
    | 1, _ => show (sha _).length ≤ lim; rw [sha_length]; decide
  have HL1 := Lib.hid hL1
  have HFL : Hid (([xr 92 (keyp k), sha (xr 54 (keyp k) ++ l)] : List (List UInt8)).flatten.length ≤ 1125899906842624) := Lib.hid (by simp [xr_length, keyp_length k hk, sha_length])
  clear hL1 hk
  go_enter Tryz.func66, Tryz.ntmps66
  go_wp2_with fail
  refine Text.wp_region_text (fun w' => (convert 24 9 (.slice (some ⟨g, 73, none⟩) 64 64)).run Tryz.prog w' = .ok (.string (strB (xr 92 (keyp k)))) w') [(0, 4), (1, 4), (2, 4), (3, 4), (4, 4), (6, 4), (7, 4), (8, 4), (9, 4), (5, 0), (10, 2), (11, 2), (12, 2), (13, 4)] (by kernel_rfl) (by kernel_rfl) (fun _ _ _ _ _ h => h) (HOB.out _ (Below.refl _ _).drew) ?_
  iterate 9 (refine Text.purek rfl rfl (fun K hK => ⟨_, fun w' => by go_simp <;> rfl, ?_⟩); go_simp; refine hK _ ?_; clear hK K)
  (refine Text.heldk rfl rfl (fun K hK => ⟨_, fun w' hw' => by go_simp <;> rfl, ?_⟩); go_simp; refine hK _ ?_; clear hK K)
  refine Text.eff rfl rfl (fun K hK => ?_)
  go_simp
  refine (sum_any g 132 (xr 54 (keyp k) ++ l) _ w.drew HM.out.drew HT.out.drew HN.out).mono ?_
  rintro e w1 ⟨rfl, b1⟩
  have HB1 : Hid (Below w.heap.size w w1) := Lib.hid (below_then (Below.refl _ _).drew b1)
  refine hK _ _ (HOB.out _ HB1.out) ?_
  clear hK K b1 hcv
  refine Text.eff rfl rfl (fun K hK => ?_)
  go_simp
  have HT2 : Hid (TS (w1.alloc (.cells #[.string (strB (xr 92 (keyp k))), .string (strB (sha (xr 54 (keyp k) ++ l)))] 9)) (some ⟨w1.heap.size, 0, none⟩) 2 2 [xr 92 (keyp k), sha (xr 54 (keyp k) ++ l)]) := Lib.hid (TS.of_blk (BL.new w1 9 _) rfl (by decide))
  have HB2 : Hid (Below w.heap.size w (w1.alloc (.cells #[.string (strB (xr 92 (keyp k))), .string (strB (sha (xr 54 (keyp k) ++ l)))] 9))) := Lib.hid (HB1.out.alloc HB1.out.size _)
  refine hK _ _ (HOB.out _ HB2.out) ?_
  clear hK K
  refine Text.eff rfl rfl (fun K hK => ?_)
  go_simp
  refine (join_any _ 2 2 _ _ HT2.out (HT.out.kept HB2.out) HFL.out HL1.out).mono ?_
  rintro e w3 ⟨rfl, b3⟩
  have HB3 : Hid (Below w.heap.size w w3) := Lib.hid (below_thenB HB2.out HB2.out.size b3)
  refine hK _ _ (HOB.out _ HB3.out) ?_
  clear hK K b3
  (refine Text.purek rfl rfl (fun K hK => ⟨_, fun w' => by go_simp <;> rfl, ?_⟩); go_simp; refine hK _ ?_; clear hK K)
  refine Text.done ?_
  go_wp2_with fail
  go_ret
  refine ⟨?_, HB3.out⟩
  rw [tagL]; rfl

set_option maxHeartbeats 400000 in
theorem tag_any (A : Option Addr) (n c : Nat) (k l : List UInt8) (w : World) (h : BS w A n c l) (hT : Tabs w) (hk : k.length ≤ 64) :
    Calls Tryz.prog 42 #[.string (strB k), .slice A n c] w fun e w' => e = .returned (.string (strB (tagL k l))) ∧ Below w.heap.size w w' := by
  have hn := h.len_le
  have H := Lib.hid h
  have HT := Lib.hid hT
  have HS := Lib.hid hT.size
  have HN : Hid (([] : List UInt8).length + n ≤ 1125899906842624) := Lib.hid (by simp; omega)
  have HN2 : Hid (l.length ≤ 562949953421312) := Lib.hid (by rw [H.out.1]; omega)
  clear h hT
  go_enter Tryz.func42, Tryz.ntmps42
  go_wp2_with (first
    | (go_at_call 64; refine (hnew_any k w HT.out hk).mono ?_; rintro e w1 ⟨g, rfl, b0, b1, b2⟩; have HB0 := Lib.hid b0; have HB1 := Lib.hid b1; have HB2 := Lib.hid b2; clear b0 b1 b2)
    | (go_at_call 65; refine (mwrite_any g n c A k [] l w1 HB1.out (H.out.kept HB2.out) (HT.out.kept HB2.out) (Nat.lt_of_lt_of_le HS.out HB0.out) (H.out.far_new (fun k e => by have := HB0.out; omega)) hk HN.out).mono ?_; rintro e w3 ⟨rfl, r1, r2⟩; rw [List.nil_append] at r1; have HR1 := Lib.hid r1; have HR2 := Lib.hid r2; clear r1 r2)
    | (go_at_call 66; refine (msum_any g k l w3 HR1.out ((HT.out.kept HB2.out).kp HR2.out (by rintro k rfl; exact Nat.lt_of_lt_of_le HS.out HB0.out)) hk HN2.out).mono ?_; rintro e w4 ⟨rfl, r1⟩))
  go_ret
  have k1 : Below w.heap.size w w3 := ((Kp.of_below (S := fun _ => False) HB2.out).after HR2.out (fun i hi e => by have := HB0.out; omega)).below (Nat.le_refl _) (fun _ h => h.elim)
  exact ⟨rfl, below_thenB k1 k1.size r1⟩
end Go.Proofs.YtgoefpbicohkfaaGreatDoor
/- append onto a byte slice that is full: the result is a row of the call's own. []byte("..") of a constant. Strings as sources. -/
namespace Go.Proofs.YtgoefpbicohkfaaGreatDoor
open Go Go.RowKit Gf

/-- A new row of bytes; nothing old has turned. -/
structure NewRow (w : World) (v : Value) (n : Nat) (l : List UInt8) (w' : World) : Prop where
  own : w'.ownsRow w.heap.size 5 1 v n (l.map B)
  below : Below w.heap.size w w'

theorem BS.firstCells {P : Program} {w : World} {A : Option Addr} {n c : Nat} {l : List UInt8} (h : BS w A n c l) : (Builtin.firstCells 1 n (.slice A n c)).run P w = .ok (l.map B).toArray w := by
  cases A with
  | none =>
    have h0 : n = 0 := by
      rcases Nat.eq_zero_or_pos n with h0 | h0
      · exact h0
      · obtain ⟨g, o, e, _⟩ := h.2.2.2 0 h0
        cases e
    have hl : l = [] := List.eq_nil_of_length_eq_zero (by rw [h.1, h0])
    subst hl
    simp [Builtin.firstCells]
  | some a =>
    have hl := run_loadCells_list (P := P) w a (l.map B) (fun j v hv => by
      obtain ⟨hj, hv2⟩ := List.getElem?_eq_some_iff.1 hv
      rw [List.length_map] at hj
      obtain ⟨g', o', e, hc⟩ := h.2.2.2 j (by rw [← h.1]; exact hj)
      obtain rfl := Option.some.inj e
      rw [addr_add, hc]
      show some (B (gB l j)) = _
      rw [gB_eq hj, ← hv2]
      simp)
    rw [List.length_map, h.1] at hl
    simp [Builtin.firstCells, hl]

theorem run_grow {w : World} {A : Option Addr} {n c : Nat} {l l' : List UInt8} (h : BS w A n c l) (tx rt : TypeId) (x : Value) (m : Nat) (hs : Src Tryz.prog 1 tx x m (l'.map B) w) (hg : c < n + m) (hb : n + m ≤ 140737488355328) :
    ∃ v' w', (Builtin.append_ #[24, tx] rt #[.slice A n c, x]).run Tryz.prog w = .ok v' w' ∧ NewRow w v' (n + m) (l ++ l') w' := by
  obtain ⟨i, hi, hz, hsz, hby⟩ := info_some infoU8
  have hf : (Builtin.firstCells i.size n (.slice A n c)).run Tryz.prog w.drew = .ok (l.map B).toArray w.drew := by rw [hsz]; exact BS.firstCells (h.drew)
  have hs' : Src Tryz.prog i.size tx x m (l'.map B) w := by rw [hsz]; exact hs
  have hr := run_append_grow_src (P := Tryz.prog) w 24 tx rt 5 i _ Tryz.underlying24 hi hz A n c (l.map B) hf x m (l'.map B) hs' hg (by omega) (by rw [hby]; exact growslice_fits hg (by omega))
  have hl' : l'.length = m := by have := hs.newsLen; simpa using this
  have hge := grownCap_ge w (n + m) c 5
  have hcm : grownCap w (n + m) c 5 ≤ maxLen := grownCap_le_maxLen w (n + m) c 5 (by simp only [maxLen]; omega)
  refine ⟨_, _, hr, ⟨⟨by simp [h.1, hl'], .inr ⟨w.heap.size, _, _, rfl, Nat.le_refl _, heap_alloc_new w.drew _, hge, hcm, ?_, ?_⟩⟩, ((Below.refl _ _).drew).alloc (Nat.le_refl _) _⟩⟩
  · simp [size_zeroCells, h.1, hl', Value.cells]; omega
  · have e : (n + m) * 1 = (l.map B ++ l'.map B).length := by simp [h.1, hl']
    rw [List.map_append, Array.toList_append, e]
    exact List.take_left

section
variable (w : World) {ops : Array Oper} {rest : List Oper} {o : Oper} {a : Act} {Q : Exit → Act → World → Prop}
theorem wpList_growS (hg : o.guard = none) (s x : Operand) (hop : o.op = .call { callee := .builtin .append, args := #[s, x], argTypes := #[24, 9] })
    (A : Option Addr) (n c : Nat) (l l' : List UInt8) (hs : a.eval s = .slice A n c) (h : BS w A n c l) (hx : a.eval x = .string (strB l')) (hc : c < n + l'.length) (hb : n + l'.length ≤ 140737488355328)
    (hK : ∀ v' w', NewRow w v' (n + l'.length) (l ++ l') w' → wpList Tryz.prog ops Q rest (a.put o.dst v') w') : wpList Tryz.prog ops Q (o :: rest) a w :=
  wpList_plain hg fun K hK' => by
    have hsrc : Src Tryz.prog 1 9 (.string (strB l')) l'.length (l'.map B) w := Src.ofString w Tryz.underlying9 (strB l')
    obtain ⟨v', w', hr, h2⟩ := run_grow h 9 o.type (.string (strB l')) l'.length hsrc hc hb
    unfold Oper.wp execOp
    simp only [hop, resolve, invoke, builtin, Sem.run_bind, Sem.run_pure, Result.andThen_ok, List.map_toArray, List.map_cons, List.map_nil, hs, hx, hr]
    exact hK' _ _ (hK v' w' h2)
theorem wpList_growB (hg : o.guard = none) (s x : Operand) (hop : o.op = .call { callee := .builtin .append, args := #[s, x], argTypes := #[24, 24] })
    (A : Option Addr) (n c : Nat) (l : List UInt8) (hs : a.eval s = .slice A n c) (h : BS w A n c l) (A' : Option Addr) (m c' : Nat) (l' : List UInt8) (hx : a.eval x = .slice A' m c') (h' : BS w A' m c' l') (hc : c < n + m) (hb : n + m ≤ 140737488355328)
    (hK : ∀ v' w', NewRow w v' (n + m) (l ++ l') w' → wpList Tryz.prog ops Q rest (a.put o.dst v') w') : wpList Tryz.prog ops Q (o :: rest) a w :=
  wpList_plain hg fun K hK' => by
    have hsrc : Src Tryz.prog 1 24 (.slice A' m c') m (l'.map B) w :=
      ⟨.inl ⟨_, Tryz.underlying24⟩, fun _ => rfl, BS.firstCells h', BS.firstCells h'.drew, by simp [h'.1], fun u hu => by obtain ⟨_, _, rfl⟩ := List.mem_map.1 hu; rfl⟩
    obtain ⟨v', w', hr, h2⟩ := run_grow h 24 o.type (.slice A' m c') m hsrc hc hb
    unfold Oper.wp execOp
    simp only [hop, resolve, invoke, builtin, Sem.run_bind, Sem.run_pure, Result.andThen_ok, List.map_toArray, List.map_cons, List.map_nil, hs, hx, hr]
    exact hK' _ _ (hK v' w' h2)
/-- append(b, s...), s a string, b a row of the call's own. -/
theorem wpList_appS (hgd : o.guard = none) (sl x : Operand) (ho : o.op = .call { callee := .builtin .append, args := #[sl, x], argTypes := #[24, 9] })
    (base : Nat) (v : Value) (n : Nat) (l l' : List UInt8) (hs : a.eval sl = v) (hown : w.ownsRow base 5 1 v n (l.map B)) (hx : a.eval x = .string (strB l')) (hb : n + l'.length ≤ 140737488355328) (hbase : base ≤ w.heap.size)
    (h : ∀ v' w', w'.ownsRow base 5 1 v' (n + l'.length) ((l ++ l').map B) → w.grownBy w' v.ownBlock → wpList Tryz.prog ops Q rest (a.put o.dst v') w') : wpList Tryz.prog ops Q (o :: rest) a w := by
  obtain ⟨i, hi, hz, hsz, hby⟩ := info_some infoU8
  exact Lib.wpList_append_own_string w hgd sl x 24 9 ho base 5 i Tryz.underlying24 Tryz.underlying9 hi hz hsz hby v n (l.map B) hs hown (strB l') hx (by show n + l'.length ≤ maxLen; simp only [maxLen]; omega) hb hbase (fun v' w' h1 h2 _ => h v' w' (by rw [List.map_append]; exact h1) h2)
/-- []byte("..") of a constant: the mark behind the last byte. -/
theorem wpList_same (hg : o.guard = none) (x : Operand) (hop : o.op = .convert 24 24 x) (g n c : Nat) (l : List UInt8) (hx : a.eval x = .slice (some ⟨g, 0, none⟩) n c) (h : BL w g 5 (l.map B)) (hn : l.length = n) (hl : n ≤ lim) (hc : c = n)
    (hK : ∀ w', BS w' (some ⟨g, 0, none⟩) n c l → Kp (· = g) w w' → w'.heap.size = w.heap.size → wpList Tryz.prog ops Q rest (a.put o.dst (.slice (some ⟨g, 0, none⟩) n c)) w') : wpList Tryz.prog ops Q (o :: rest) a w :=
  wpList_plain hg fun K hK' => by
    subst hc
    have hsh : w.shape? g = some (5, (l.map B).toArray.size) := by
      unfold World.shape?
      have h9 : w.heap[g]? = some (.cells (l.map B).toArray 5 (0, 0)) := h
      rw [h9]
    have hr : (convert 24 24 (.slice (some ⟨g, 0, none⟩) c c)).run Tryz.prog w = .ok (.slice (some ⟨g, 0, none⟩) c c) (w.freeze ⟨g, (l.map B).toArray.size, none⟩ 1) := by
      simp [convert, run_underlying Tryz.underlying24, run_underlying Tryz.underlying5, markStringish, hsh]
    have hfr : (w.freeze ⟨g, (l.map B).toArray.size, none⟩ 1).heap[g]? = some (.cells (l.map B).toArray 5 ((l.map B).toArray.size, (l.map B).toArray.size + 1)) := by
      have h9 : w.heap[g]? = some (.cells (l.map B).toArray 5 (0, 0)) := h
      unfold World.freeze
      rw [if_neg (by decide)]
      simp [Array.getElem?_modify, h9]
    have hkp : Kp (· = g) w (w.freeze ⟨g, (l.map B).toArray.size, none⟩ 1) := by
      unfold World.freeze
      rw [if_neg (by decide)]
      exact ⟨rfl, rfl, rfl, by simp, fun k _ hk => by simp [Array.getElem?_modify, show ¬ g = k from fun e => hk e.symm]⟩
    unfold Oper.wp execOp
    simp only [hop, hx, Sem.run_bind, hr, Result.andThen_ok]
    refine hK' _ _ (hK _ ⟨hn, Nat.le_refl _, hl, fun k hk => ⟨g, 0, rfl, ?_⟩⟩ hkp (by unfold World.freeze; rw [if_neg (by decide)]; simp))
    rw [Nat.zero_add, cell_of_row _ g k _ _ _ hfr]
    have hkl : k < l.length := by omega
    show (l.map B).toArray[k]? = some (B (gB l k))
    rw [gB_eq hkl]
    simp [hkl]
end

/-- The groups of a number (f: more than there are). -/
def uvf : Nat → Nat → List UInt8
  | 0, n => [UInt8.ofNat n]
  | f + 1, n => if n < 128 then [UInt8.ofNat n] else (UInt8.ofNat n ||| 128) :: uvf f (n >>> 7)
def uv (n : Nat) : List UInt8 := uvf 10 n
end Go.Proofs.YtgoefpbicohkfaaGreatDoor
/- Contracts of wire.extend and wire.AppendUint. -/
namespace Go.Proofs.YtgoefpbicohkfaaGreatDoor
open Go.RowKit Gf Sha

theorem or128 (b : UInt8) : bits .or .u8 (bv b) 128 = bv (b ||| 128) := Gf.or_bits b 128
attribute [local go_sem] or128
theorem uvf_small (f n : Nat) (h : n < 128) : uvf f n = [UInt8.ofNat n] := by
  cases f with
  | zero => rfl
  | succ f => rw [uvf, if_pos h]
theorem uvf_more (f n : Nat) (h : ¬ n < 128) : uvf (f + 1) n = (UInt8.ofNat n ||| 128) :: uvf f (n >>> 7) := by rw [uvf, if_neg h]
theorem uvf_length (f n : Nat) : 1 ≤ (uvf f n).length ∧ (uvf f n).length ≤ f + 1 := by
  induction f generalizing n with
  | zero => exact ⟨Nat.le_refl _, Nat.le_refl _⟩
  | succ f ih =>
    rw [uvf]
    split
    · simp
    · have := ih (n >>> 7); simp; omega
theorem uv_length (n : Nat) : 1 ≤ (uv n).length ∧ (uv n).length ≤ 11 := uvf_length 10 n

/-- What extend leaves. -/
def ExtRet (base : Nat) (L : List UInt8) (w : World) (e : Ending) (w' : World) : Prop := ∃ v g n c, e = .returned v ∧ v = .slice (some ⟨g, 0, none⟩) n c ∧ L.length = n ∧ w'.ownsRow base 5 1 v n (L.map B) ∧ Below base w w' ∧ w.heap.size ≤ w'.heap.size

set_option maxRecDepth 100000 in
set_option maxHeartbeats 1000000 in
theorem extend_any (base m n : Nat) (v : Value) (l : List UInt8) (w : World) (ho : w.ownsRow base 5 1 v m (l.map B)) (hbase : base ≤ w.heap.size) (hm : m ≤ 10000000) (hn : n < 9223372036854775808) :
    Calls Tryz.prog 47 #[v, .int .u64 (n : Int)] w (ExtRet base (l ++ uv n) w) := by
  have HO := Lib.hid ho
  have HBS := Lib.hid hbase
  have HN := Lib.hid hn
  have HMB := Lib.hid hm
  clear ho hbase hn hm
  go_enter Tryz.func47, Tryz.ntmps47
  go_wp2_with fail
  go_loopw [0, 1] (fun x y wr => ∃ (v1 : Value) (m1 n1 f : Nat) (l1 : List UInt8), m1 ≤ m + 10 ∧ f ≤ 10 ∧ x = v1 ∧ y = .int .u64 (n1 : Int) ∧ Hid (n1 < 9223372036854775808) ∧ Hid (m1 + f = m + 10) ∧ Hid (n1 < 2 ^ (7 * (f + 1))) ∧ Hid (l1 ++ uvf f n1 = l ++ uv n) ∧ Hid (wr.ownsRow base 5 1 v1 m1 (l1.map B)) ∧ Hid (Below base w wr) ∧ Hid (w.heap.size ≤ wr.heap.size)) (fun _ y _ => (intOf y).toNat)
  case atStart => exact ⟨_, m, n, 10, l, by omega, by omega, rfl, rfl, HN, Lib.hid rfl, Lib.hid (by have := HN.out; exact Nat.lt_of_lt_of_le this (by decide)), Lib.hid rfl, HO, Lib.hid (Below.refl _ _), Lib.hid (Nat.le_refl _)⟩
  case round =>
    obtain ⟨v1, m1, n1, f, l1, hm1, hf, rfl, rfl, hn1, hmf, hnf, hl, ho1, hb1, hz1⟩ := hrel
    obtain ⟨wx, hwx⟩ : ∃ x, x = wr := ⟨_, rfl⟩
    rw [← hwx] at ho1 hb1 hz1 ⊢
    clear hwx
    have HBX : Hid (base ≤ wx.heap.size) := Lib.hid (by have := HBS.out; have := hz1.out; omega)
    have HMK : Hid (m1 < 100000000) := Lib.hid (by have := HMB.out; omega)
    by_cases hlt : n1 < 128
    · have HBK : Hid (Blk (wx.alloc (.cells #[B (UInt8.ofNat n1)] 5)) wx.heap.size 5 #[B (UInt8.ofNat n1)]) := Lib.hid (Blk.new wx 5 #[B (UInt8.ofNat n1)])
      have HOO := Lib.hid (ho1.out.kept (World.grownBy_alloc wx (.cells #[B (UInt8.ofNat n1)] 5) none) (by rcases ho1.out.2 with ⟨rfl, _⟩ | ⟨_, _, _, rfl, _⟩ <;> simp [Value.ownBlock]))
      have HBB := Lib.hid (hb1.out.alloc HBX.out (.cells #[B (UInt8.ofNat n1)] 5))
      have HSB : Hid (base ≤ (wx.alloc (.cells #[B (UInt8.ofNat n1)] 5)).heap.size) := Lib.hid (by have := HBX.out; simp; omega)
      have HE : Hid (l1 ++ [UInt8.ofNat n1] = l ++ uv n) := Lib.hid (by rw [← hl.out, uvf_small f n1 hlt])
      go_wp2_with (first
        | ((with_reducible show wpList _ _ _ (⟨some 17, _, _, _, _, _⟩ :: _) _ _); refine wpList_u8N _ rfl (.tmp 16) 53 5 rfl _ .u64 Tryz.underlying53 Tryz.underlying5 n1 _ rfl rfl ?_)
        | ((with_reducible show wpList _ _ _ (⟨some 19, _, _, _, _, _⟩ :: _) _ _); refine wpList_app1 _ rfl (.tmp 15) (.tmp 18) 24 5 (.int .u8 0) 1 Tryz.underlying24 infoU8 rfl rfl base _ m1 _ rfl HOO.out wx.heap.size 1 5 (B (UInt8.ofNat n1)) rfl HBK.out rfl (by have := HMK.out; omega) (by have := HMK.out; omega) HSB.out ?_; intro v6 w6 hp))
      obtain ⟨g6, c6, rfl⟩ := hp.form (by omega)
      go_ret
      refine ⟨_, g6, m1 + 1, c6, rfl, rfl, ?_, ?_, hp.below HOO.out HBB.out (Nat.le_refl _) HSB.out, ?_⟩
      · rw [← HE.out, List.length_append]
        have := ho1.out.1
        simp at this
        simp [this]
      · have := hp.own
        rw [← HE.out, List.map_append]
        exact this
      · have h1 := hz1.out
        have h2 := hp.2.1.size
        simp at h2
        omega
    · obtain ⟨f, rfl⟩ : ∃ f', f = f' + 1 := ⟨f - 1, by
        rcases Nat.eq_zero_or_pos f with h0 | h0
        · subst h0; have := hnf.out; omega
        · omega⟩
      have hge : 128 ≤ n1 := by omega
      have hsr : n1 >>> 7 = n1 / 128 := by rw [Nat.shiftRight_eq_div_pow]
      have hn2 : Hid (n1 >>> 7 < 9223372036854775808) := Lib.hid (by have := hn1.out; omega)
      have hlt2 : n1 >>> 7 < n1 := by omega
      have HSR := Lib.hid hsr
      clear hsr
      have HBK : Hid (Blk (wx.alloc (.cells #[B (UInt8.ofNat n1 ||| 128)] 5)) wx.heap.size 5 #[B (UInt8.ofNat n1 ||| 128)]) := Lib.hid (Blk.new wx 5 #[B (UInt8.ofNat n1 ||| 128)])
      have HOO := Lib.hid (ho1.out.kept (World.grownBy_alloc wx (.cells #[B (UInt8.ofNat n1 ||| 128)] 5) none) (by rcases ho1.out.2 with ⟨rfl, _⟩ | ⟨_, _, _, rfl, _⟩ <;> simp [Value.ownBlock]))
      have HBB := Lib.hid (hb1.out.alloc HBX.out (.cells #[B (UInt8.ofNat n1 ||| 128)] 5))
      have HSB : Hid (base ≤ (wx.alloc (.cells #[B (UInt8.ofNat n1 ||| 128)] 5)).heap.size) := Lib.hid (by have := HBX.out; simp; omega)
      have HE : Hid ((l1 ++ [UInt8.ofNat n1 ||| 128]) ++ uvf f (n1 >>> 7) = l ++ uv n) := Lib.hid (by rw [← hl.out, uvf_more f n1 hlt, List.append_assoc]; rfl)
      have HF : Hid (n1 >>> 7 < 2 ^ (7 * (f + 1))) := Lib.hid (by
        rw [HSR.out]
        have h1 := hnf.out
        rw [show 7 * (f + 1 + 1) = 7 * (f + 1) + 7 by omega, Nat.pow_add] at h1
        exact Nat.div_lt_of_lt_mul (by rw [Nat.mul_comm]; exact h1))
      go_wp2_with (first
        | ((with_reducible show wpList _ _ _ (⟨some 9, _, _, _, _, _⟩ :: _) _ _); refine wpList_u8N _ rfl (.tmp 8) 53 5 rfl _ .u64 Tryz.underlying53 Tryz.underlying5 n1 _ rfl rfl ?_)
        | ((with_reducible show wpList _ _ _ (⟨some 12, _, _, _, _, _⟩ :: _) _ _); refine wpList_app1 _ rfl (.tmp 7) (.tmp 11) 24 5 (.int .u8 0) 1 Tryz.underlying24 infoU8 rfl rfl base _ m1 _ rfl HOO.out wx.heap.size 1 5 (B (UInt8.ofNat n1 ||| 128)) rfl HBK.out rfl (by have := HMK.out; omega) (by have := HMK.out; omega) HSB.out ?_; intro v6 w6 hp; have HP := Lib.hid hp; clear hp)
        | ((with_reducible show wpList _ _ _ (⟨some 14, _, _, _, _, _⟩ :: _) _ _); refine wpList_shrN _ rfl (.tmp 13) _ _ _ rfl .u64 n1 7 _ 7 rfl rfl rfl rfl (by decide) ?_))
      go_roundw
      case rel => exact ⟨v6, m1 + 1, n1 >>> 7, f, l1 ++ [UInt8.ofNat n1 ||| 128], by have := hmf.out; omega, by omega, rfl, rfl, hn2, Lib.hid (by have := hmf.out; omega), HF, HE, Lib.hid (by have := HP.out.own; rw [List.map_append]; exact this), Lib.hid (HP.out.below HOO.out HBB.out (Nat.le_refl _) HSB.out), Lib.hid (by have h1 := hz1.out; have h2 := HP.out.2.1.size; simp at h2; omega)⟩
      case measure => simp only [intOf, Int.toNat_natCast]; exact hlt2

set_option maxHeartbeats 400000 in
theorem appu_any (A : Option Addr) (n c k : Nat) (l : List UInt8) (w : World) (h : BS w A n c l) (hn : n ≤ 1000000) (hk : k < 9223372036854775808) :
    Calls Tryz.prog 43 #[.slice A n c, .int .u64 (k : Int)] w (ExtRet w.heap.size (l ++ uv k) w) := by
  have H := Lib.hid h
  have HK := Lib.hid hk
  clear h hk
  go_enter Tryz.func43, Tryz.ntmps43
  go_wp2_with (first
    | ((with_reducible show wpList _ _ _ (⟨some 8, _, _, _, _, _⟩ :: _) _ _); refine wpList_mk _ rfl 24 5 _ _ rfl (.int .u8 0) 1 Tryz.underlying24 infoU8 rfl 0 (n + 10) 0 _ rfl rfl rfl (by omega) (by omega) (by omega) (by omega) ?_; intro w2 b1 b2 b3; have HB1 := Lib.hid b1; have HB2 := Lib.hid b2; have HB3 := Lib.hid b3; clear b1 b2 b3)
    | ((with_reducible show wpList _ _ _ (⟨some 10, _, _, _, _, _⟩ :: _) _ _); refine wpList_appB _ rfl (.tmp 8) (.tmp 9) rfl w.heap.size _ 0 [] rfl (BL.own0 HB1.out (Nat.le_refl _) (by simp) (by unfold lim; omega)) A n c l rfl (H.out.kept HB2.out) (by omega) HB2.out.size ?_; intro v3 w3 hp; have HP := Lib.hid hp; clear hp)
    | (go_at_call 47; refine (extend_any w.heap.size (0 + n) k v3 l w3 HP.out.own (by have h2 := HP.out.2.1.size; have := HB2.out.size; omega) (by omega) HK.out).mono ?_; rintro e w4 ⟨v4, g4, n4, c4, rfl, rfl, r1, r2, r3, r4⟩))
  go_ret
  have hb : Below w.heap.size w w3 := HP.out.below (BL.own0 HB1.out (Nat.le_refl _) (by simp) (by unfold lim; omega)) HB2.out (Nat.le_refl _) HB2.out.size
  exact ⟨_, g4, n4, c4, rfl, rfl, r1, r2, hb.trans r3, Nat.le_trans hb.size r4⟩
end Go.Proofs.YtgoefpbicohkfaaGreatDoor
/- Keys: ref11.ValidKeys. -/
namespace Go.Proofs.YtgoefpbicohkfaaGreatDoor
open Go Go.RowKit Gf Sha

theorem ret_boolk {a b : Bool} (h : a = b) : Ending.returned (.bool a) = .returned (.bool b) := by rw [h]
/-- Keys. -/
structure Ky where
  nm : List UInt8
  st : List UInt8
  ck : List UInt8
  ix : List UInt8
  tk : List UInt8
def Ky.list (K : Ky) : List (List UInt8) := [K.nm, K.st, K.ck, K.ix, K.tk]
/-- The value of keys. -/
abbrev Ky.val (K : Ky) : Value := .agg #[.string (strB K.nm), .string (strB K.st), .string (strB K.ck), .string (strB K.ix), .string (strB K.tk)]
/-- Are keys valid? -/
def okK (K : Ky) : Bool := K.list.all fun l => decide (l.length = 32)
theorem okK_nm {K : Ky} (h : okK K = true) : ∀ l ∈ K.list, l.length = 32 := fun l hl => by
  have := List.all_eq_true.1 h l hl
  simpa using this
theorem okK_tk {K : Ky} (h : okK K = true) : K.tk.length = 32 := okK_nm h _ (by simp [Ky.list])
theorem list_get (K : Ky) (k : Nat) (h : k < 5) : (#[.string (strB K.nm), .string (strB K.st), .string (strB K.ck), .string (strB K.ix), .string (strB K.tk)] : Array Value)[k]? = some (.string (strB (gR K.list k))) := by
  match k, h with
  | 0, _ => rfl
  | 1, _ => rfl
  | 2, _ => rfl
  | 3, _ => rfl
  | 4, _ => rfl
theorem okK_false {K : Ky} {k : Nat} (hk : k < 5) (h : (gR K.list k).length ≠ 32) : okK K = false := by
  rw [okK, Bool.eq_false_iff, Ne, List.all_eq_true]
  intro h2
  have h3 := h2 (gR K.list k) (by rw [gR_eq (by exact hk)]; exact List.getElem_mem _)
  exact h (by simpa using h3)
theorem okK_true {K : Ky} (h : ∀ k, k < 5 → (gR K.list k).length = 32) : okK K = true := by
  rw [okK, List.all_eq_true]
  intro l hl
  obtain ⟨k, hk, rfl⟩ := List.mem_iff_getElem.1 hl
  have := h k hk
  rw [gR_eq hk] at this
  simpa using this
def Ky.cells (K : Ky) : List Value := [.string (strB K.nm), .string (strB K.st), .string (strB K.ck), .string (strB K.ix), .string (strB K.tk)]
theorem okK_out {K : Ky} {l : List UInt8} (hl : l ∈ K.list) (h : ¬ l.length = 32) : okK K = false := by
  rw [Bool.eq_false_iff]
  intro e
  exact h (okK_nm e l hl)
set_option maxRecDepth 100000 in
set_option maxHeartbeats 1000000 in
theorem rkeys_any (K : Ky) (w : World) :
    Calls Tryz.prog 44 #[K.val] w fun e w' => e = .returned (.bool (okK K)) ∧ Below w.heap.size w w' := by
  by_cases h0 : K.nm.length = 32
  case neg =>
    have HE : Hid (okK K = false) := Lib.hid (okK_out (l := K.nm) (by simp [Ky.list]) h0)
    have e0 : (((strB K.nm).size : Int) == 32) = false := by rw [strB_size, beq_eq_false_iff_ne]; omega
    clear h0
    go_enter Tryz.func44, Tryz.ntmps44
    go_wp2_with ((with_reducible show wpList _ _ _ (⟨some 1, _, _, _, _, _⟩ :: _) _ _); refine wpList_box _ rfl 23 (.tmp 0) rfl K.cells rfl ?_; intro w1 a1 a2 a3; have q0 := BL.get a1 (j := 0) rfl; have q1 := BL.get a1 (j := 1) rfl; have q2 := BL.get a1 (j := 2) rfl; have q3 := BL.get a1 (j := 3) rfl; have q4 := BL.get a1 (j := 4) rfl; have HB1 := Lib.hid a2; clear a1 a2 a3)
    go_ret
    exact ⟨ret_boolk HE.out.symm, HB1.out⟩
  have e0 : (((strB K.nm).size : Int) == 32) = true := by rw [strB_size, beq_iff_eq]; omega
  by_cases h1 : K.st.length = 32
  case neg =>
    have HE : Hid (okK K = false) := Lib.hid (okK_out (l := K.st) (by simp [Ky.list]) h1)
    have e1 : (((strB K.st).size : Int) == 32) = false := by rw [strB_size, beq_eq_false_iff_ne]; omega
    clear h0 h1
    go_enter Tryz.func44, Tryz.ntmps44
    go_wp2_with ((with_reducible show wpList _ _ _ (⟨some 1, _, _, _, _, _⟩ :: _) _ _); refine wpList_box _ rfl 23 (.tmp 0) rfl K.cells rfl ?_; intro w1 a1 a2 a3; have q0 := BL.get a1 (j := 0) rfl; have q1 := BL.get a1 (j := 1) rfl; have q2 := BL.get a1 (j := 2) rfl; have q3 := BL.get a1 (j := 3) rfl; have q4 := BL.get a1 (j := 4) rfl; have HB1 := Lib.hid a2; clear a1 a2 a3)
    go_ret
    exact ⟨ret_boolk HE.out.symm, HB1.out⟩
  have e1 : (((strB K.st).size : Int) == 32) = true := by rw [strB_size, beq_iff_eq]; omega
  by_cases h2 : K.ck.length = 32
  case neg =>
    have HE : Hid (okK K = false) := Lib.hid (okK_out (l := K.ck) (by simp [Ky.list]) h2)
    have e2 : (((strB K.ck).size : Int) == 32) = false := by rw [strB_size, beq_eq_false_iff_ne]; omega
    clear h0 h1 h2
    go_enter Tryz.func44, Tryz.ntmps44
    go_wp2_with ((with_reducible show wpList _ _ _ (⟨some 1, _, _, _, _, _⟩ :: _) _ _); refine wpList_box _ rfl 23 (.tmp 0) rfl K.cells rfl ?_; intro w1 a1 a2 a3; have q0 := BL.get a1 (j := 0) rfl; have q1 := BL.get a1 (j := 1) rfl; have q2 := BL.get a1 (j := 2) rfl; have q3 := BL.get a1 (j := 3) rfl; have q4 := BL.get a1 (j := 4) rfl; have HB1 := Lib.hid a2; clear a1 a2 a3)
    go_ret
    exact ⟨ret_boolk HE.out.symm, HB1.out⟩
  have e2 : (((strB K.ck).size : Int) == 32) = true := by rw [strB_size, beq_iff_eq]; omega
  by_cases h3 : K.ix.length = 32
  case neg =>
    have HE : Hid (okK K = false) := Lib.hid (okK_out (l := K.ix) (by simp [Ky.list]) h3)
    have e3 : (((strB K.ix).size : Int) == 32) = false := by rw [strB_size, beq_eq_false_iff_ne]; omega
    clear h0 h1 h2 h3
    go_enter Tryz.func44, Tryz.ntmps44
    go_wp2_with ((with_reducible show wpList _ _ _ (⟨some 1, _, _, _, _, _⟩ :: _) _ _); refine wpList_box _ rfl 23 (.tmp 0) rfl K.cells rfl ?_; intro w1 a1 a2 a3; have q0 := BL.get a1 (j := 0) rfl; have q1 := BL.get a1 (j := 1) rfl; have q2 := BL.get a1 (j := 2) rfl; have q3 := BL.get a1 (j := 3) rfl; have q4 := BL.get a1 (j := 4) rfl; have HB1 := Lib.hid a2; clear a1 a2 a3)
    go_ret
    exact ⟨ret_boolk HE.out.symm, HB1.out⟩
  have e3 : (((strB K.ix).size : Int) == 32) = true := by rw [strB_size, beq_iff_eq]; omega
  by_cases h4 : K.tk.length = 32
  case neg =>
    have HE : Hid (okK K = false) := Lib.hid (okK_out (l := K.tk) (by simp [Ky.list]) h4)
    have e4 : (((strB K.tk).size : Int) == 32) = false := by rw [strB_size, beq_eq_false_iff_ne]; omega
    clear h0 h1 h2 h3 h4
    go_enter Tryz.func44, Tryz.ntmps44
    go_wp2_with ((with_reducible show wpList _ _ _ (⟨some 1, _, _, _, _, _⟩ :: _) _ _); refine wpList_box _ rfl 23 (.tmp 0) rfl K.cells rfl ?_; intro w1 a1 a2 a3; have q0 := BL.get a1 (j := 0) rfl; have q1 := BL.get a1 (j := 1) rfl; have q2 := BL.get a1 (j := 2) rfl; have q3 := BL.get a1 (j := 3) rfl; have q4 := BL.get a1 (j := 4) rfl; have HB1 := Lib.hid a2; clear a1 a2 a3)
    go_ret
    exact ⟨ret_boolk HE.out.symm, HB1.out⟩
  have e4 : (((strB K.tk).size : Int) == 32) = true := by rw [strB_size, beq_iff_eq]; omega
  have HE : Hid (okK K = true) := Lib.hid (by
    unfold okK
    rw [List.all_eq_true]
    intro l hl
    simp only [Ky.list, List.mem_cons, List.not_mem_nil, or_false] at hl
    rcases hl with rfl | rfl | rfl | rfl | rfl <;> simp [h0, h1, h2, h3, h4])
  clear h0 h1 h2 h3 h4
  go_enter Tryz.func44, Tryz.ntmps44
  go_wp2_with ((with_reducible show wpList _ _ _ (⟨some 1, _, _, _, _, _⟩ :: _) _ _); refine wpList_box _ rfl 23 (.tmp 0) rfl K.cells rfl ?_; intro w1 a1 a2 a3; have q0 := BL.get a1 (j := 0) rfl; have q1 := BL.get a1 (j := 1) rfl; have q2 := BL.get a1 (j := 2) rfl; have q3 := BL.get a1 (j := 3) rfl; have q4 := BL.get a1 (j := 4) rfl; have HB1 := Lib.hid a2; clear a1 a2 a3)
  go_ret
  exact ⟨ret_boolk HE.out.symm, HB1.out⟩
end Go.Proofs.YtgoefpbicohkfaaGreatDoor
/- Contract of ref03.rotr at the rotations that SHA-256 takes. -/
namespace Go.Proofs.YtgoefpbicohkfaaGreatDoor
open Go.RowKit Gf Sha

theorem rot_w' (x : UInt32) (n : Nat) (h0 : 0 < n) (h : n < 32) : bits .or .u32 (wv x / 2 ^ n) (wv x * 2 ^ (32 - n) % 4294967296) = wv (rr x (UInt32.ofNat n)) := by
  rw [← rot_w x n h0 h, shl_w x (32 - n) (by omega), shr_w x n h, or_w, or_w, UInt32.or_comm]

theorem orr_2 (x : UInt32) : bits .or .u32 (wv x / 4) (wv x * 1073741824 % 4294967296) = wv (rr x 2) := rot_w' x 2 (by decide) (by decide)
theorem orr_6 (x : UInt32) : bits .or .u32 (wv x / 64) (wv x * 67108864 % 4294967296) = wv (rr x 6) := rot_w' x 6 (by decide) (by decide)
theorem orr_7 (x : UInt32) : bits .or .u32 (wv x / 128) (wv x * 33554432 % 4294967296) = wv (rr x 7) := rot_w' x 7 (by decide) (by decide)
theorem orr_11 (x : UInt32) : bits .or .u32 (wv x / 2048) (wv x * 2097152 % 4294967296) = wv (rr x 11) := rot_w' x 11 (by decide) (by decide)
theorem orr_13 (x : UInt32) : bits .or .u32 (wv x / 8192) (wv x * 524288 % 4294967296) = wv (rr x 13) := rot_w' x 13 (by decide) (by decide)
theorem orr_17 (x : UInt32) : bits .or .u32 (wv x / 131072) (wv x * 32768 % 4294967296) = wv (rr x 17) := rot_w' x 17 (by decide) (by decide)
theorem orr_18 (x : UInt32) : bits .or .u32 (wv x / 262144) (wv x * 16384 % 4294967296) = wv (rr x 18) := rot_w' x 18 (by decide) (by decide)
theorem orr_19 (x : UInt32) : bits .or .u32 (wv x / 524288) (wv x * 8192 % 4294967296) = wv (rr x 19) := rot_w' x 19 (by decide) (by decide)
theorem orr_22 (x : UInt32) : bits .or .u32 (wv x / 4194304) (wv x * 1024 % 4294967296) = wv (rr x 22) := rot_w' x 22 (by decide) (by decide)
theorem orr_25 (x : UInt32) : bits .or .u32 (wv x / 33554432) (wv x * 128 % 4294967296) = wv (rr x 25) := rot_w' x 25 (by decide) (by decide)
attribute [local go_sem] orr_2 orr_6 orr_7 orr_11 orr_13 orr_17 orr_18 orr_19 orr_22 orr_25
theorem rr2_any (x : UInt32) (w : World) :
    Calls Tryz.prog 109 #[W x, .int .i64 2] w fun e w' => e = .returned (W (rr x 2)) ∧ ∃ m, w' = w.drewN m := by
  go_enter Tryz.func109, Tryz.ntmps109
  go_wp2_with fail
  go_quiet (fail)
  go_wp2_with fail
  go_ret
  exact ⟨rfl, _, rfl⟩
theorem rr6_any (x : UInt32) (w : World) :
    Calls Tryz.prog 109 #[W x, .int .i64 6] w fun e w' => e = .returned (W (rr x 6)) ∧ ∃ m, w' = w.drewN m := by
  go_enter Tryz.func109, Tryz.ntmps109
  go_wp2_with fail
  go_quiet (fail)
  go_wp2_with fail
  go_ret
  exact ⟨rfl, _, rfl⟩
theorem rr7_any (x : UInt32) (w : World) :
    Calls Tryz.prog 109 #[W x, .int .i64 7] w fun e w' => e = .returned (W (rr x 7)) ∧ ∃ m, w' = w.drewN m := by
  go_enter Tryz.func109, Tryz.ntmps109
  go_wp2_with fail
  go_quiet (fail)
  go_wp2_with fail
  go_ret
  exact ⟨rfl, _, rfl⟩
theorem rr11_any (x : UInt32) (w : World) :
    Calls Tryz.prog 109 #[W x, .int .i64 11] w fun e w' => e = .returned (W (rr x 11)) ∧ ∃ m, w' = w.drewN m := by
  go_enter Tryz.func109, Tryz.ntmps109
  go_wp2_with fail
  go_quiet (fail)
  go_wp2_with fail
  go_ret
  exact ⟨rfl, _, rfl⟩
theorem rr13_any (x : UInt32) (w : World) :
    Calls Tryz.prog 109 #[W x, .int .i64 13] w fun e w' => e = .returned (W (rr x 13)) ∧ ∃ m, w' = w.drewN m := by
  go_enter Tryz.func109, Tryz.ntmps109
  go_wp2_with fail
  go_quiet (fail)
  go_wp2_with fail
  go_ret
  exact ⟨rfl, _, rfl⟩
theorem rr17_any (x : UInt32) (w : World) :
    Calls Tryz.prog 109 #[W x, .int .i64 17] w fun e w' => e = .returned (W (rr x 17)) ∧ ∃ m, w' = w.drewN m := by
  go_enter Tryz.func109, Tryz.ntmps109
  go_wp2_with fail
  go_quiet (fail)
  go_wp2_with fail
  go_ret
  exact ⟨rfl, _, rfl⟩
theorem rr18_any (x : UInt32) (w : World) :
    Calls Tryz.prog 109 #[W x, .int .i64 18] w fun e w' => e = .returned (W (rr x 18)) ∧ ∃ m, w' = w.drewN m := by
  go_enter Tryz.func109, Tryz.ntmps109
  go_wp2_with fail
  go_quiet (fail)
  go_wp2_with fail
  go_ret
  exact ⟨rfl, _, rfl⟩
theorem rr19_any (x : UInt32) (w : World) :
    Calls Tryz.prog 109 #[W x, .int .i64 19] w fun e w' => e = .returned (W (rr x 19)) ∧ ∃ m, w' = w.drewN m := by
  go_enter Tryz.func109, Tryz.ntmps109
  go_wp2_with fail
  go_quiet (fail)
  go_wp2_with fail
  go_ret
  exact ⟨rfl, _, rfl⟩
theorem rr22_any (x : UInt32) (w : World) :
    Calls Tryz.prog 109 #[W x, .int .i64 22] w fun e w' => e = .returned (W (rr x 22)) ∧ ∃ m, w' = w.drewN m := by
  go_enter Tryz.func109, Tryz.ntmps109
  go_wp2_with fail
  go_quiet (fail)
  go_wp2_with fail
  go_ret
  exact ⟨rfl, _, rfl⟩
theorem rr25_any (x : UInt32) (w : World) :
    Calls Tryz.prog 109 #[W x, .int .i64 25] w fun e w' => e = .returned (W (rr x 25)) ∧ ∃ m, w' = w.drewN m := by
  go_enter Tryz.func109, Tryz.ntmps109
  go_wp2_with fail
  go_quiet (fail)
  go_wp2_with fail
  go_ret
  exact ⟨rfl, _, rfl⟩
end Go.Proofs.YtgoefpbicohkfaaGreatDoor
/- Rows of elements of many cells: tokens. Plain, but for the words on memory. -/
namespace Go.Proofs.YtgoefpbicohkfaaGreatDoor
open Go Go.RowKit Gf

section
variable {α : Type} {f : α → List Value} {s : Nat}
theorem flat_length (hf : ∀ x, (f x).length = s) (l : List α) : (l.flatMap f).length = l.length * s := by
  induction l with
  | nil => simp
  | cons x l ih => rw [List.flatMap_cons, List.length_append, hf, ih, List.length_cons, Nat.succ_mul]; omega
theorem flat_split (l : List α) (k : Nat) (h : k < l.length) : l.flatMap f = (l.take k).flatMap f ++ f l[k] ++ (l.drop (k + 1)).flatMap f := by
  conv => lhs; rw [← List.take_append_drop k l, List.drop_eq_getElem_cons h]
  rw [List.flatMap_append, List.flatMap_cons, List.append_assoc]
theorem splice_mid (A X C vs : List Value) (o : Nat) (ho : o = A.length) (h : vs.length = X.length) : splice (A ++ X ++ C) o vs = A ++ vs ++ C := by
  subst ho
  unfold splice
  have e1 : (A ++ X ++ C).take A.length = A := by rw [List.append_assoc, List.take_left]
  have e2 : (A ++ X ++ C).drop (A.length + vs.length) = C := by rw [h, ← List.length_append, List.drop_left]
  rw [e1, e2]
theorem flat_splice (hf : ∀ x, (f x).length = s) (l : List α) (k : Nat) (h : k < l.length) (x : α) : splice (l.flatMap f) (k * s) (f x) = (l.set k x).flatMap f := by
  have h2 : (l.set k x).length = l.length := List.length_set
  rw [flat_split (f := f) l k h, flat_split (f := f) (l.set k x) k (by omega), List.getElem_set_self, List.take_set_of_le (Nat.le_refl _), List.drop_set_of_lt (by omega)]
  exact splice_mid _ _ _ _ _ (by rw [flat_length hf, List.length_take, Nat.min_eq_left (by omega)]) (by rw [hf, hf])
theorem BL.elem {w : World} {g : Nat} {t : TypeId} {l : List α} (hf : ∀ x, (f x).length = s) (h : BL w g t (l.flatMap f)) {k : Nat} (hk : k < l.length) : At w g (k * s) (f l[k]) := by
  rw [flat_split (f := f) l k hk] at h
  exact BL.at_ h (by rw [flat_length hf, List.length_take, Nat.min_eq_left (by omega)])
end

theorem madeCells_flat (z : List Value) (n : Nat) (hz : z ≠ []) : madeCells z.toArray (n * z.length) = ((List.replicate n ()).flatMap fun _ => z).toArray := by
  have hl : ((List.replicate n ()).flatMap fun _ => z).length = n * z.length := by rw [flat_length (s := z.length) (fun _ => rfl), List.length_replicate]
  have hz0 : 0 < z.length := List.length_pos_iff.2 hz
  apply Array.ext'
  rw [madeCells, Array.toList_map, Array.toList_range]
  apply List.ext_getElem?
  intro i
  by_cases hi : i < n * z.length
  · rw [List.getElem?_map, List.getElem?_range hi]
    have hk : i / z.length < n := Nat.div_lt_of_lt_mul (by rw [Nat.mul_comm]; exact hi)
    have hs := flat_split (f := fun _ : Unit => z) (List.replicate n ()) (i / z.length) (by rw [List.length_replicate]; exact hk)
    have h1 : (((List.replicate n ()).take (i / z.length)).flatMap fun _ => z).length = i / z.length * z.length := by rw [flat_length (s := z.length) (fun _ => rfl), List.length_take, List.length_replicate, Nat.min_eq_left (by omega)]
    have hdm := Nat.div_add_mod i z.length
    have hm := Nat.mod_lt i hz0
    rw [Nat.mul_comm] at hdm
    rw [List.toList_toArray, hs, List.append_assoc, List.getElem?_append_right (by omega), h1, List.getElem?_append_left (by omega), show i - i / z.length * z.length = i % z.length by omega]
    simp [hm]
  · rw [List.getElem?_eq_none (by simp; omega), List.getElem?_eq_none (by rw [List.toList_toArray, hl]; omega)]

/-- make([]T, k, n), T of many cells. -/
theorem wpList_mkv {P : Program} (w : World) {ops : Array Oper} {rest : List Oper} {o : Oper} {a : Act} {Q : Exit → Act → World → Prop} (hg : o.guard = none) (t te : TypeId) (x y : Operand) (hop : o.op = .makeSlice t x y) (z : List Value) (hz : z ≠ []) (bytes : Nat) (ht : P.underlying t = some (.slice te))
    (hinfo : (P.info? te).map (fun i => (i.zero, i.size, i.bytes)) = some (some (.agg z.toArray), z.length, bytes)) (k n : Nat) (zx zy : Int) (hx : a.eval x = .int .i64 zx) (hy : a.eval y = .int .i64 zy) (hzx : zx = (k : Int)) (hzy : zy = (n : Int)) (hk : k ≤ n) (hb : bytes * n ≤ 281474976710656) (hn : n ≤ 9223372036854775807)
    (h : ∀ w', BL w' w.heap.size te ((List.replicate n ()).flatMap fun _ => z) → Below w.heap.size w w' → w'.heap.size = w.heap.size + 1 → wpList P ops Q rest (a.put o.dst (.slice (some ⟨w.heap.size, 0, none⟩) k n)) w') : wpList P ops Q (o :: rest) a w :=
  wpList_plain hg fun K hK => by
    subst hzx hzy
    obtain ⟨i, hi, hzz, hs, hby⟩ := info_parts hinfo
    have hbb : (i.bytes : Int) * (n : Int) ≤ 281474976710656 := by rw [hby, ← Int.natCast_mul]; exact Int.ofNat_le.2 hb
    have hr := run_make (P := P) w t te i _ ht hi hzz .i64 .i64 (k : Int) (n : Int) (by omega) (by omega) hbb (by omega)
    rw [hs] at hr
    simp only [Int.toNat_natCast, Value.cells, madeCells_flat z n hz] at hr
    unfold Oper.wp execOp
    simp only [hop, hx, hy]
    simp [hr, Result.andThen]
    exact hK _ _ (h _ (BL.new w te _) ((Below.refl _ _).alloc (Nat.le_refl _) _) (by simp))

section
variable {P : Program} {w : World} {o : Oper} {a : Act} {Q : Exit → Act → World → Prop} {K : Act → World → Prop}
theorem wp_storev (t : TypeId) (x y : Operand) (hop : o.op = .store t x y) (n : Nat) (ht : Agg P t n = true) (g p : Nat) (te : TypeId) (l vs : List Value) (hx : a.eval x = .pointer (some ⟨g, p, none⟩)) (hy : a.eval y = .agg vs.toArray)
    (hb : BL w g te l) (hn : vs.length = n) (h1 : ∀ v ∈ vs, v.oneCell' = true) (ho : p + n ≤ l.length)
    (h : ∀ w', BL w' g te (splice l p vs) → Kp (· = g) w w' → w'.heap.size = w.heap.size → K (a.put o.dst undef) w') : o.wp P a w K Q := by
  obtain ⟨w', hr, h2, h3, h4⟩ := run_storeAt w ht hb hn h1 ho
  unfold Oper.wp execOp
  simp only [hop, hx, hy]
  simp [hr, Result.andThen]
  exact h w' h2 h3 h4
end
end Go.Proofs.YtgoefpbicohkfaaGreatDoor
