/- Several texts in one: Vg, Vh, Vi, Vj, Vk. -/
import Derived.Test.YtboglaokdgnpaaaA25
/- Append of a whole list; slices.Clone. -/
namespace Go.Proofs.Ytboglaokdgnpaaa
open Go Go.RowKit Gf Sha

section
variable {α : Type} {R : Rdg α} {s b n c m : Nat} {w w' : World} {A : Option Addr} {L : List α} {P : Program} {te : TypeId} {v : Value} {l : List Value}
/-- The cells of a list. -/
theorem LS.css (h : LS R s b w A n c L) (hlen : ∀ cs x, R w cs x → cs.length = s) : ∃ css : List (List Value), css.length = L.length ∧ (∀ cs ∈ css, cs.length = s) ∧ (∀ k (h : k < L.length) (h' : k < css.length), R w css[k] L[k]) ∧ ∀ g o, A = some ⟨g, o, none⟩ → At w g o css.flatten := by
 have key : ∀ k, k ≤ L.length → ∃ css : List (List Value), css.length = k ∧ (∀ cs ∈ css, cs.length = s) ∧ (∀ j (h : j < L.length) (h' : j < css.length), R w css[j] L[j]) ∧ ∀ g o, A = some ⟨g, o, none⟩ → At w g o css.flatten := by
  intro k
  induction k with
  | zero => intro _; exact ⟨[], rfl, (fun _ h => by cases h), (fun _ _ h => absurd h (by simp)), fun g o _ j v hj => by simp at hj⟩
  | succ k ih =>
   intro hk
   obtain ⟨css, h1, h2, h3, h4⟩ := ih (by omega)
   obtain ⟨g, o, cs, e, h5, h6⟩ := h.2.2.2 k (by omega)
   refine ⟨css ++ [cs], by simp [h1], fun c hc => ?_, fun j hj hj' => ?_, fun g' o' e' => ?_⟩
   ·
    rcases List.mem_append.1 hc with h | h
    ·
     exact h2 c h
    ·
     rw [List.mem_singleton.1 h]; exact hlen _ _ h6
   ·
    by_cases hlt : j < css.length
    ·
     rw [List.getElem_append_left hlt]; exact h3 j hj hlt
    ·
     have e9 : j = k := by simp at hj'; omega
     subst e9
     rw [List.getElem_append_right (by omega)]
     simp only [h1, Nat.sub_self, List.getElem_cons_zero]
     exact h6
   ·
    rw [e] at e'
    cases e'
    have hf := flatten_len h2
    have h7 := h4 g o e
    rw [List.flatten_append, List.flatten_cons, List.flatten_nil, List.append_nil]
    intro j u hj
    by_cases hlt : j < css.flatten.length
    ·
     rw [List.getElem?_append_left hlt] at hj; exact h7 j u hj
    ·
     rw [List.getElem?_append_right (by omega)] at hj
     have h8 := h5 (j - css.flatten.length) u hj
     rw [show o + j = o + k * s + (j - css.flatten.length) by rw [hf, h1] at hlt ⊢; omega]
     exact h8
 exact key _ (Nat.le_refl _)
theorem LS.src (h : LS R s b w A n c L) (hlen : ∀ cs x, R w cs x → cs.length = s) (hone : ∀ cs x, R w cs x → ∀ u ∈ cs, u.oneCell' = true) {tx e' : TypeId} (hk : P.underlying tx = some (.slice e')) :
  ∃ css : List (List Value), css.length = L.length ∧ (∀ cs ∈ css, cs.length = s) ∧ (∀ k (h : k < L.length) (h' : k < css.length), R w css[k] L[k]) ∧ ∀ w', Below w.heap.size w w' → Src P s tx (.slice A n c) n css.flatten w' := by
 obtain ⟨css, h1, h2, h3, h4⟩ := h.css hlen
 have hfl : css.flatten.length = n * s := by rw [flatten_len h2, h1, h.1]
 have h1c : ∀ u ∈ css.flatten, u.oneCell' = true := fun u hu => by
  obtain ⟨cs, hcs, hu⟩ := List.mem_flatten.1 hu
  obtain ⟨k, hk⟩ := List.mem_iff_getElem?.1 hcs
  obtain ⟨hk1, hk2⟩ := List.getElem?_eq_some_iff.1 hk
  have h9 := h3 k (by omega) hk1
  rw [hk2] at h9
  exact hone _ _ h9 u hu
 refine ⟨css, h1, h2, h3, fun w' hbel => ?_⟩
 cases A with
 | none =>
  have h0 : n = 0 := by
   rcases Nat.eq_zero_or_pos n with h9 | h9
   ·
    exact h9
   ·
    obtain ⟨g, o, cs, e, _⟩ := h.2.2.2 0 (by rw [h.1]; exact h9)
    cases e
  subst h0
  have : css.flatten = [] := List.eq_nil_of_length_eq_zero (by omega)
  rw [this]
  exact Src.ofNil w' hk c
 | some a =>
  refine Src.ofSlice w' hk a n c _ hfl (fun j u hj => ?_) h1c
  have hn : 0 < n := by
   rcases Nat.eq_zero_or_pos n with h9 | h9
   ·
    subst h9
    have : css.flatten = [] := List.eq_nil_of_length_eq_zero (by omega)
    rw [this] at hj; simp at hj
   ·
    exact h9
  obtain ⟨g, o, cs, e, _⟩ := h.2.2.2 0 (by rw [h.1]; exact hn)
  cases e
  rw [Addr.add_lit]
  exact (h4 g o rfl).kept hbel j u hj
theorem run_appS {t tx rt : TypeId} {i : TypeInfo} {z : Value} (ht : P.underlying t = some (.slice te)) (hi : P.info? te = some i) (hz : i.zero = some z) (hs : i.size = s) (hzs : z.cells.size = s) (h : RW w te s v n l) {x : Value} {xs : List Value}
  (hx : Src P s tx x m xs w) (hb : (n + m) * i.bytes ≤ 140737488355328) (hn : n + m ≤ 140737488355328) :
  ∃ v' w', (Builtin.append_ #[t, tx] rt #[v, x]).run P w = .ok v' w' ∧ AppR w te s v n m l xs v' w' := by
 rcases Nat.eq_zero_or_pos m with h0 | hm
 ·
  subst h0
  have hxs : xs = [] := List.eq_nil_of_length_eq_zero (by have := hx.newsLen; omega)
  subst hxs
  have hap : AppR w te s v n 0 l [] v w := ⟨by rw [Nat.add_zero, List.append_nil]; exact h, Kp.of_below (Below.refl _ _), fun b hb => .inl hb⟩
  rcases h.2 with ⟨rfl, rfl⟩ | ⟨g, o, c, cs, rfl, hbl, h1, h2, h3, h4⟩
  ·
   refine ⟨_, w, ?_, hap⟩
   rcases hx.kind with ⟨e', hk⟩ | hk <;> simp [Builtin.append_, run_underlying ht, run_underlying hk, sizeOf, typeInfo, hi, hs, hx.len, hx.cells, Result.andThen]
  ·
   refine ⟨_, w, ?_, hap⟩
   have hx' : Src P i.size tx x 0 [] w := by rw [hs]; exact hx
   have h9 := run_append_room_src (P := P) w t tx rt te i ht hi g o n c x 0 [] hx' (by omega) (fun j hj => absurd hj (by simp)) (fun j hj => absurd hj (by simp))
   exact h9
 ·
  exact run_appRW ht hi hz hs hzs h hx hm hb hn
end
section
variable {P : Program} (w : World) {ops : Array Oper} {rest : List Oper} {o : Oper} {a : Act} {Q : Exit → Act → World → Prop} {K' : Act → World → Prop}
/-- append(r, x...). -/
theorem wp_appX (sl x : Operand) (t te : TypeId) (s : Nat) (i : TypeInfo) (z : Value) (hop : o.op = .call { callee := .builtin .append, args := #[sl, x], argTypes := #[t, t] })
  (ht : P.underlying t = some (.slice te)) (hi : P.info? te = some i) (hz : i.zero = some z) (hs : i.size = s) (hzs : z.cells.size = s) (v : Value) (n : Nat) (l : List Value) (hv : a.eval sl = v) (h : RW w te s v n l)
  (xv : Value) (m : Nat) (xs : List Value) (hx : a.eval x = xv) (hsrc : Src P s t xv m xs w) (hb : (n + m) * i.bytes ≤ 140737488355328) (hn : n + m ≤ 140737488355328)
  (hK : ∀ v' w', AppR w te s v n m l xs v' w' → K' (a.put o.dst v') w') : o.wp P a w K' Q := by
 obtain ⟨v', w', hr, h2⟩ := run_appS (rt := o.type) ht hi hz hs hzs h hsrc hb hn
 unfold Oper.wp execOp
 simp only [hop, resolve, invoke, builtin, Sem.run_bind, Sem.run_pure, Result.andThen_ok, List.map_toArray, List.map_cons, List.map_nil, hv, hx, hr]
 exact hK _ _ h2
theorem wpList_appX (hg : o.guard = none) (sl x : Operand) (t te : TypeId) (s : Nat) (i : TypeInfo) (z : Value) (hop : o.op = .call { callee := .builtin .append, args := #[sl, x], argTypes := #[t, t] })
  (ht : P.underlying t = some (.slice te)) (hi : P.info? te = some i) (hz : i.zero = some z) (hs : i.size = s) (hzs : z.cells.size = s) (v : Value) (n : Nat) (l : List Value) (hv : a.eval sl = v) (h : RW w te s v n l)
  (xv : Value) (m : Nat) (xs : List Value) (hx : a.eval x = xv) (hsrc : Src P s t xv m xs w) (hb : (n + m) * i.bytes ≤ 140737488355328) (hn : n + m ≤ 140737488355328)
  (hK : ∀ v' w', AppR w te s v n m l xs v' w' → wpList P ops Q rest (a.put o.dst v') w') : wpList P ops Q (o :: rest) a w :=
 wpList_plain hg fun _ hK' => wp_appX w sl x t te s i z hop ht hi hz hs hzs v n l hv h xv m xs hx hsrc hb hn (fun v' w' h2 => hK' _ _ (hK v' w' h2))
end
/-- A list with another one behind it. -/
theorem OL.app {α : Type} {R : Rdg α} {s m : Nat} {te : TypeId} {w0 w w' : World} {v v' : Value} {L M : List α} {n : Nat} {css : List (List Value)} (hl : css.length = L.length) (h2 : ∀ cs ∈ css, cs.length = s) (h3 : ∀ k (h : k < L.length) (h' : k < css.length), R w0 css[k] L[k]) (h5 : ∀ b, v.ownBlock = some b → w0.heap.size ≤ b) (hn : L.length = n)
  {dss : List (List Value)} (kl : dss.length = M.length) (k2 : ∀ cs ∈ dss, cs.length = s) (k3 : ∀ k (h : k < M.length) (h' : k < dss.length), R w0 dss[k] M[k]) (km : M.length = m) (hw : w0.heap.size ≤ w.heap.size) (ap : AppR w te s v n m css.flatten dss.flatten v' w') : OL R s te w0 w' v' (L ++ M) := by
 refine ⟨css ++ dss, by simp [hl, kl], fun cs hcs => (List.mem_append.1 hcs).elim (h2 cs) (k2 cs), fun k hk hk' => ?_, ?_, fun b hb => (ap.own b hb).elim (h5 b) (fun h => Nat.le_trans hw h)⟩
 ·
  by_cases hlt : k < L.length
  ·
   rw [List.getElem_append_left (by omega), List.getElem_append_left hlt]; exact h3 k hlt (by omega)
  ·
   rw [List.getElem_append_right (by omega), List.getElem_append_right (by omega)]
   simp only [hl]
   exact k3 _ (by rw [List.length_append] at hk; omega) _
 ·
  have := ap.row
  rw [List.flatten_append, List.length_append, hn, km]
  exact this
theorem len_str {w : World} : ∀ cs x, rStr w cs x → cs.length = 1 := fun _ _ h => by rw [h.1]; rfl
theorem len_rf {w : World} : ∀ cs x, rRf w cs x → cs.length = 3 := fun _ _ h => by rw [h.1]; rfl
theorem len_pc {w : World} : ∀ cs x, rPc w cs x → cs.length = 2 := fun _ _ h => by rw [h.1]; rfl
theorem len_sp {w : World} : ∀ cs x, rSp w cs x → cs.length = 6 := fun _ _ ⟨_, _, _, e, _⟩ => by rw [e]; rfl
theorem ones_str {w : World} : ∀ cs x, rStr w cs x → ∀ u ∈ cs, u.oneCell' = true := fun _ _ h => by rw [h.1]; exact one_val _ rfl
theorem ones_rf {w : World} : ∀ cs x, rRf w cs x → ∀ u ∈ cs, u.oneCell' = true := fun _ _ h => by rw [h.1]; exact one_val _ rfl
theorem ones_pc {w : World} : ∀ cs x, rPc w cs x → ∀ u ∈ cs, u.oneCell' = true := fun _ _ h => by rw [h.1]; exact one_val _ rfl
theorem ones_sp {w : World} : ∀ cs x, rSp w cs x → ∀ u ∈ cs, u.oneCell' = true := fun _ _ ⟨_, _, _, e, _⟩ => by rw [e]; exact one_val _ rfl

theorem LS.none_len {α : Type} {R : Rdg α} {s b n c : Nat} {w : World} {L : List α} (h : LS R s b w none n c L) : n = 0 := by
 rcases Nat.eq_zero_or_pos n with h9 | h9
 ·
  exact h9
 ·
  obtain ⟨g, o, cs, e, _⟩ := h.2.2.2 0 (by rw [h.1]; exact h9)
  cases e
theorem eqNil_str (a : Addr) (n c : Nat) (w : World) : (binOp .eql 23 (.slice (some a) n c) (.slice none 0 0)).run Try.prog w = .ok (.bool false) w := Lib.run_eql_slice_nil w _ _ (some a) n c 0 0 Try.underlying23
theorem eqNil0_str (n c : Nat) (w : World) : (binOp .eql 23 (.slice none n c) (.slice none 0 0)).run Try.prog w = .ok (.bool true) w := Lib.run_eql_slice_nil w _ _ none n c 0 0 Try.underlying23
theorem bsl0_str (w : World) : (Instr.buildSlice 23 0 #[]).run Try.prog w = .ok (.slice (some ⟨w.heap.size, 0, none⟩) 0 0) (w.alloc (.cells ([] : List Value).toArray 9)) := by kernel_rfl
set_option maxRecDepth 100000 in
set_option maxHeartbeats 1000000 in
theorem clone_str (A : Option Addr) (n c : Nat) (L : List (List UInt8)) (w : World) (h : LS rStr 1 16 w A n c L) :
  Calls Try.prog 85 #[.slice A n c] w fun e w' => ∃ A' c', e = .returned (.slice A' n c') ∧ OL rStr 1 9 w w' (.slice A' n c') L ∧ Below w.heap.size w w' := by
 have hn := h.len_le
 obtain ⟨css, h1, h2, h3, h4⟩ := h.src (P := Try.prog) len_str ones_str Try.underlying23
 have HL := Lib.hid h.1
 have HC := Lib.hid h1
 have H2 := Lib.hid h2
 have H3 := Lib.hid h3
 have HS := Lib.hid h4
 have HN0 : Hid (A = none → n = 0) := Lib.hid (fun e => by subst e; exact h.none_len)
 clear h h1 h2 h3 h4
 cases A with
 | none =>
  have hen := eqNil0_str n c
  obtain rfl := HN0.out rfl
  go_enter Try.func85, Try.ntmps85
  go_wp2_with fail
  go_ret
  have hL : L = [] := List.eq_nil_of_length_eq_zero HL.out
  rw [hL]
  exact ⟨none, 0, rfl, OL.nil _ _ _ _ _, Below.refl _ _⟩
 | some a =>
  have hen := eqNil_str a n c
  go_enter Try.func85, Try.ntmps85
  go_wp2_with (first
   | ((with_reducible show OpW 5); refine wpList_bslice _ rfl 23 9 0 _ rfl #[] (by rw [List.map_toArray]; rfl) [] (bsl0_str _) ?_; intro w1 a1 a2 a3; have HG1 := Lib.hid a1; have HB1 := Lib.hid a2; clear a1 a2 a3)
   | ((with_reducible show OpW 7); obtain ⟨iS, i1, i2, i3, i4⟩ := info_some infoStr; refine wpList_appX _ rfl (.tmp 5) (.tmp 6) 23 9 1 iS _ rfl Try.underlying23 i1 i2 i3 rfl _ 0 [] rfl (RW.of_blk (n := 0) HG1.out (by simp) (by decide)) _ n _ rfl (HS.out _ HB1.out) (by rw [i4]; omega) (by omega) ?_; intro v' w2 ap; have HAP := Lib.hid ap; clear ap i1 i2 i3 i4))
  obtain ⟨A', c', e', _⟩ := HAP.out.row.form
  subst e'
  go_ret
  have ho : OL rStr 1 9 w w2 (.slice A' (0 + n) c') ([] ++ L) := OL.app (css := []) rfl (fun _ h => by cases h) (fun _ h => absurd h (by simp)) (fun b hb => by cases hb; exact Nat.le_refl _) rfl HC.out H2.out H3.out HL.out HB1.out.size HAP.out
  rw [Nat.zero_add, List.nil_append] at ho
  refine ⟨A', c', by rw [Nat.zero_add]; rfl, ho, ((Kp.of_below (S := fun _ => False) HB1.out).after HAP.out.kp (fun i hi e => by have e' : w.heap.size = i := Option.some.inj e; omega)).below (Nat.le_refl _) (fun _ h => h.elim)⟩
theorem eqNil_rf (a : Addr) (n c : Nat) (w : World) : (binOp .eql 40 (.slice (some a) n c) (.slice none 0 0)).run Try.prog w = .ok (.bool false) w := Lib.run_eql_slice_nil w _ _ (some a) n c 0 0 Try.underlying40
theorem eqNil0_rf (n c : Nat) (w : World) : (binOp .eql 40 (.slice none n c) (.slice none 0 0)).run Try.prog w = .ok (.bool true) w := Lib.run_eql_slice_nil w _ _ none n c 0 0 Try.underlying40
theorem bsl0_rf (w : World) : (Instr.buildSlice 40 0 #[]).run Try.prog w = .ok (.slice (some ⟨w.heap.size, 0, none⟩) 0 0) (w.alloc (.cells ([] : List Value).toArray 73)) := by kernel_rfl
set_option maxRecDepth 100000 in
set_option maxHeartbeats 1000000 in
theorem clone_rf (A : Option Addr) (n c : Nat) (L : List Rf) (w : World) (h : LS rRf 3 32 w A n c L) :
  Calls Try.prog 91 #[.slice A n c] w fun e w' => ∃ A' c', e = .returned (.slice A' n c') ∧ OL rRf 3 73 w w' (.slice A' n c') L ∧ Below w.heap.size w w' := by
 have hn := h.len_le
 obtain ⟨css, h1, h2, h3, h4⟩ := h.src (P := Try.prog) len_rf ones_rf Try.underlying40
 have HL := Lib.hid h.1
 have HC := Lib.hid h1
 have H2 := Lib.hid h2
 have H3 := Lib.hid h3
 have HS := Lib.hid h4
 have HN0 : Hid (A = none → n = 0) := Lib.hid (fun e => by subst e; exact h.none_len)
 clear h h1 h2 h3 h4
 cases A with
 | none =>
  have hen := eqNil0_rf n c
  obtain rfl := HN0.out rfl
  go_enter Try.func91, Try.ntmps91
  go_wp2_with fail
  go_ret
  have hL : L = [] := List.eq_nil_of_length_eq_zero HL.out
  rw [hL]
  exact ⟨none, 0, rfl, OL.nil _ _ _ _ _, Below.refl _ _⟩
 | some a =>
  have hen := eqNil_rf a n c
  go_enter Try.func91, Try.ntmps91
  go_wp2_with (first
   | ((with_reducible show OpW 5); refine wpList_bslice _ rfl 40 73 0 _ rfl #[] (by rw [List.map_toArray]; rfl) [] (bsl0_rf _) ?_; intro w1 a1 a2 a3; have HG1 := Lib.hid a1; have HB1 := Lib.hid a2; clear a1 a2 a3)
   | ((with_reducible show OpW 7); obtain ⟨iS, i1, i2, i3, i4⟩ := info_some infoRf; refine wpList_appX _ rfl (.tmp 5) (.tmp 6) 40 73 3 iS _ rfl Try.underlying40 i1 i2 i3 rfl _ 0 [] rfl (RW.of_blk (n := 0) HG1.out (by simp) (by decide)) _ n _ rfl (HS.out _ HB1.out) (by rw [i4]; omega) (by omega) ?_; intro v' w2 ap; have HAP := Lib.hid ap; clear ap i1 i2 i3 i4))
  obtain ⟨A', c', e', _⟩ := HAP.out.row.form
  subst e'
  go_ret
  have ho : OL rRf 3 73 w w2 (.slice A' (0 + n) c') ([] ++ L) := OL.app (css := []) rfl (fun _ h => by cases h) (fun _ h => absurd h (by simp)) (fun b hb => by cases hb; exact Nat.le_refl _) rfl HC.out H2.out H3.out HL.out HB1.out.size HAP.out
  rw [Nat.zero_add, List.nil_append] at ho
  refine ⟨A', c', by rw [Nat.zero_add]; rfl, ho, ((Kp.of_below (S := fun _ => False) HB1.out).after HAP.out.kp (fun i hi e => by have e' : w.heap.size = i := Option.some.inj e; omega)).below (Nat.le_refl _) (fun _ h => h.elim)⟩
theorem eqNil_pc (a : Addr) (n c : Nat) (w : World) : (binOp .eql 24 (.slice (some a) n c) (.slice none 0 0)).run Try.prog w = .ok (.bool false) w := Lib.run_eql_slice_nil w _ _ (some a) n c 0 0 Try.underlying24
theorem eqNil0_pc (n c : Nat) (w : World) : (binOp .eql 24 (.slice none n c) (.slice none 0 0)).run Try.prog w = .ok (.bool true) w := Lib.run_eql_slice_nil w _ _ none n c 0 0 Try.underlying24
theorem bsl0_pc (w : World) : (Instr.buildSlice 24 0 #[]).run Try.prog w = .ok (.slice (some ⟨w.heap.size, 0, none⟩) 0 0) (w.alloc (.cells ([] : List Value).toArray 39)) := by kernel_rfl
set_option maxRecDepth 100000 in
set_option maxHeartbeats 1000000 in
theorem clone_pc (A : Option Addr) (n c : Nat) (L : List Pc) (w : World) (h : LS rPc 2 24 w A n c L) :
  Calls Try.prog 86 #[.slice A n c] w fun e w' => ∃ A' c', e = .returned (.slice A' n c') ∧ OL rPc 2 39 w w' (.slice A' n c') L ∧ Below w.heap.size w w' := by
 have hn := h.len_le
 obtain ⟨css, h1, h2, h3, h4⟩ := h.src (P := Try.prog) len_pc ones_pc Try.underlying24
 have HL := Lib.hid h.1
 have HC := Lib.hid h1
 have H2 := Lib.hid h2
 have H3 := Lib.hid h3
 have HS := Lib.hid h4
 have HN0 : Hid (A = none → n = 0) := Lib.hid (fun e => by subst e; exact h.none_len)
 clear h h1 h2 h3 h4
 cases A with
 | none =>
  have hen := eqNil0_pc n c
  obtain rfl := HN0.out rfl
  go_enter Try.func86, Try.ntmps86
  go_wp2_with fail
  go_ret
  have hL : L = [] := List.eq_nil_of_length_eq_zero HL.out
  rw [hL]
  exact ⟨none, 0, rfl, OL.nil _ _ _ _ _, Below.refl _ _⟩
 | some a =>
  have hen := eqNil_pc a n c
  go_enter Try.func86, Try.ntmps86
  go_wp2_with (first
   | ((with_reducible show OpW 5); refine wpList_bslice _ rfl 24 39 0 _ rfl #[] (by rw [List.map_toArray]; rfl) [] (bsl0_pc _) ?_; intro w1 a1 a2 a3; have HG1 := Lib.hid a1; have HB1 := Lib.hid a2; clear a1 a2 a3)
   | ((with_reducible show OpW 7); obtain ⟨iS, i1, i2, i3, i4⟩ := info_some infoPc; refine wpList_appX _ rfl (.tmp 5) (.tmp 6) 24 39 2 iS _ rfl Try.underlying24 i1 i2 i3 rfl _ 0 [] rfl (RW.of_blk (n := 0) HG1.out (by simp) (by decide)) _ n _ rfl (HS.out _ HB1.out) (by rw [i4]; omega) (by omega) ?_; intro v' w2 ap; have HAP := Lib.hid ap; clear ap i1 i2 i3 i4))
  obtain ⟨A', c', e', _⟩ := HAP.out.row.form
  subst e'
  go_ret
  have ho : OL rPc 2 39 w w2 (.slice A' (0 + n) c') ([] ++ L) := OL.app (css := []) rfl (fun _ h => by cases h) (fun _ h => absurd h (by simp)) (fun b hb => by cases hb; exact Nat.le_refl _) rfl HC.out H2.out H3.out HL.out HB1.out.size HAP.out
  rw [Nat.zero_add, List.nil_append] at ho
  refine ⟨A', c', by rw [Nat.zero_add]; rfl, ho, ((Kp.of_below (S := fun _ => False) HB1.out).after HAP.out.kp (fun i hi e => by have e' : w.heap.size = i := Option.some.inj e; omega)).below (Nat.le_refl _) (fun _ h => h.elim)⟩
theorem eqNil_sp (a : Addr) (n c : Nat) (w : World) : (binOp .eql 22 (.slice (some a) n c) (.slice none 0 0)).run Try.prog w = .ok (.bool false) w := Lib.run_eql_slice_nil w _ _ (some a) n c 0 0 Try.underlying22
theorem eqNil0_sp (n c : Nat) (w : World) : (binOp .eql 22 (.slice none n c) (.slice none 0 0)).run Try.prog w = .ok (.bool true) w := Lib.run_eql_slice_nil w _ _ none n c 0 0 Try.underlying22
theorem bsl0_sp (w : World) : (Instr.buildSlice 22 0 #[]).run Try.prog w = .ok (.slice (some ⟨w.heap.size, 0, none⟩) 0 0) (w.alloc (.cells ([] : List Value).toArray 61)) := by kernel_rfl
set_option maxRecDepth 100000 in
set_option maxHeartbeats 1000000 in
theorem clone_sp (A : Option Addr) (n c : Nat) (L : List Sp) (w : World) (h : LS rSp 6 72 w A n c L) :
  Calls Try.prog 90 #[.slice A n c] w fun e w' => ∃ A' c', e = .returned (.slice A' n c') ∧ OL rSp 6 61 w w' (.slice A' n c') L ∧ Below w.heap.size w w' := by
 have hn := h.len_le
 obtain ⟨css, h1, h2, h3, h4⟩ := h.src (P := Try.prog) len_sp ones_sp Try.underlying22
 have HL := Lib.hid h.1
 have HC := Lib.hid h1
 have H2 := Lib.hid h2
 have H3 := Lib.hid h3
 have HS := Lib.hid h4
 have HN0 : Hid (A = none → n = 0) := Lib.hid (fun e => by subst e; exact h.none_len)
 clear h h1 h2 h3 h4
 cases A with
 | none =>
  have hen := eqNil0_sp n c
  obtain rfl := HN0.out rfl
  go_enter Try.func90, Try.ntmps90
  go_wp2_with fail
  go_ret
  have hL : L = [] := List.eq_nil_of_length_eq_zero HL.out
  rw [hL]
  exact ⟨none, 0, rfl, OL.nil _ _ _ _ _, Below.refl _ _⟩
 | some a =>
  have hen := eqNil_sp a n c
  go_enter Try.func90, Try.ntmps90
  go_wp2_with (first
   | ((with_reducible show OpW 5); refine wpList_bslice _ rfl 22 61 0 _ rfl #[] (by rw [List.map_toArray]; rfl) [] (bsl0_sp _) ?_; intro w1 a1 a2 a3; have HG1 := Lib.hid a1; have HB1 := Lib.hid a2; clear a1 a2 a3)
   | ((with_reducible show OpW 7); obtain ⟨iS, i1, i2, i3, i4⟩ := info_some infoSp; refine wpList_appX _ rfl (.tmp 5) (.tmp 6) 22 61 6 iS _ rfl Try.underlying22 i1 i2 i3 rfl _ 0 [] rfl (RW.of_blk (n := 0) HG1.out (by simp) (by decide)) _ n _ rfl (HS.out _ HB1.out) (by rw [i4]; omega) (by omega) ?_; intro v' w2 ap; have HAP := Lib.hid ap; clear ap i1 i2 i3 i4))
  obtain ⟨A', c', e', _⟩ := HAP.out.row.form
  subst e'
  go_ret
  have ho : OL rSp 6 61 w w2 (.slice A' (0 + n) c') ([] ++ L) := OL.app (css := []) rfl (fun _ h => by cases h) (fun _ h => absurd h (by simp)) (fun b hb => by cases hb; exact Nat.le_refl _) rfl HC.out H2.out H3.out HL.out HB1.out.size HAP.out
  rw [Nat.zero_add, List.nil_append] at ho
  refine ⟨A', c', by rw [Nat.zero_add]; rfl, ho, ((Kp.of_below (S := fun _ => False) HB1.out).after HAP.out.kp (fun i hi e => by have e' : w.heap.size = i := Option.some.inj e; omega)).below (Nat.le_refl _) (fun _ h => h.elim)⟩
end Go.Proofs.Ytboglaokdgnpaaa
/- The situation's refuse. -/
namespace Go.Proofs.Ytboglaokdgnpaaa
open Go Go.RowKit Gf Sha

/-- The error of a step. -/
def refE (st : St) (s : Stp) (made : List Sp) : Int :=
 if s.kind = 3 then (if st.held s.pc then 0 else 4)
 else if s.kind = 1 then (if fitB st s.refs made then 0 else 1)
 else if s.sts.all (fun id => (st.pl id).isSome) then (if s.kind = 4 then (if s.sts.all st.drop then 0 else 6) else 0) else 4
theorem ret_int {a b : Int} (h : b = a) : Ending.returned (.int .i64 a) = .returned (.int .i64 b) := by rw [h]
set_option maxRecDepth 100000 in
set_option maxHeartbeats 4000000 in
theorem refuse_any (w : World) (b : Nat) (m0 m1 m2 m3 m4 m5 m6 m7 : Nat) (a0 : Option Addr) (n0 c0 : Nat) (a1 : Option Addr) (n1 c1 : Nat) (a2 : Option Addr) (n2 c2 : Nat) (a3 : Option Addr) (n3 c3 : Nat) (a4 : Option Addr) (n4 c4 : Nat) (a5 : Option Addr) (n5 c5 : Nat) (p : Int) (st : St) (h : StM w b m0 m1 m2 m3 m4 m5 m6 m7 a0 n0 c0 a1 n1 c1 a2 n2 c2 a3 n3 c3 a4 n4 c4 a5 n5 c5 p st) (s : Stp) (cs : List Value) (hs : rStp w cs s) (B : Option Addr) (l d : Nat) (made : List Sp) (hm : LS rSp 6 72 w B l d made) :
  Calls Try.prog 50 #[.pointer (some ⟨b, 0, none⟩), .agg cs.toArray, .slice B l d] w fun e w' => e = .returned (.int .i64 (refE st s made)) ∧ Below w.heap.size w w' := by
 obtain ⟨B0, p0, d0, B1, p1, d1, rfl, hl0, hl1, hkd, hpc⟩ := hs
 have hp0 := hl0.len_le
 have hp1 := hl1.len_le
 have HST := Lib.hid h
 have HL0 := Lib.hid hl0
 have HL1 := Lib.hid hl1
 have HM := Lib.hid hm
 have HN0 := Lib.hid hl0.1
 have HKP := Lib.hid (keyP s.pc hpc)
 clear h hl0 hl1 hkd hpc hm
 by_cases h3 : s.kind = 3
 ·
  have e3 : (s.kind == 3) = true := by simp [h3]
  have HTB : Hid (refE st s made = (if st.held s.pc then 0 else 4)) := Lib.hid (by rw [refE, if_pos h3])
  clear h3
  cases h1 : st.held s.pc with
  | false =>
   go_enter Try.func50, Try.ntmps50
   go_wp2_with (first
    | ((with_reducible show OpW 4); refine wpList_box _ rfl 44 (.tmp 1) rfl (stC2 s B0 p0 d0 B1 p1 d1) rfl ?_; intro w1 a1 a2 a3; have HB1 := Lib.hid a2; have HT1 := Lib.hid a1; have HST1 := Lib.hid (HST.out.kept a2); have r0 := a1.get (j := 0) rfl; have r1 := a1.get (j := 1) rfl; have r4 := a1.get (j := 4) rfl; have q12 := (HST.out.blk.kept a2).get (j := 12) rfl; clear a1 a2 a3))
   refine Text.wp_region_text (fun w' => At w' w.heap.size 2 (pcL s.pc)) [(0, 4), (1, 4), (2, 4), (4, 4), (5, 0), (3, 1), (6, 2), (7, 4)] (by kernel_rfl) (by kernel_rfl) (fun _ _ _ _ _ h => h) (HT1.out.all.mid) ?_
   iterate 4 (refine Text.purek rfl rfl (fun K hK => ⟨_, fun w' => by go_simp <;> rfl, ?_⟩); go_simp; refine hK _ ?_; clear hK K)
   refine Text.heldk rfl rfl (fun K hK => ?_)
   refine ⟨_, fun w' hw' => exec_loadv 39 (.tmp 20) rfl 2 (by kernel_rfl) w.heap.size 2 (pcL s.pc) (by go_simp) hw' rfl, ?_⟩
   go_simp
   refine hK _ ?_
   clear hK K
   (refine Text.readk rfl rfl (fun K hK => ⟨_, by go_simp <;> rfl, ?_⟩); go_simp; refine hK _ ?_; clear hK K)
   refine Text.eff rfl rfl (fun K hK => ?_)
   refine wp_lookG _ (.tmp 19) (.tmp 21) 79 39 4 rfl pidKeyed mapPB (.bool false) boolZero m5 _ rfl (HST1.out.kept (Below.refl _ _).drew).maps.held s.pc rfl HKP.out ?_
   rw [h1]
   go_simp
   refine hK _ _ (HT1.out.kept (Below.refl _ _).drew).all.mid ?_
   clear hK K
   (refine Text.purek rfl rfl (fun K hK => ⟨_, fun w' => by go_simp <;> rfl, ?_⟩); go_simp; refine hK _ ?_; clear hK K)
   refine Text.done ?_
   go_wp2_with fail
   go_ret
   exact ⟨ret_int (by rw [HTB.out, h1]; rfl), HB1.out.drew⟩
  | true =>
   go_enter Try.func50, Try.ntmps50
   go_wp2_with (first
    | ((with_reducible show OpW 4); refine wpList_box _ rfl 44 (.tmp 1) rfl (stC2 s B0 p0 d0 B1 p1 d1) rfl ?_; intro w1 a1 a2 a3; have HB1 := Lib.hid a2; have HT1 := Lib.hid a1; have HST1 := Lib.hid (HST.out.kept a2); have r0 := a1.get (j := 0) rfl; have r1 := a1.get (j := 1) rfl; have r4 := a1.get (j := 4) rfl; have q12 := (HST.out.blk.kept a2).get (j := 12) rfl; clear a1 a2 a3))
   refine Text.wp_region_text (fun w' => At w' w.heap.size 2 (pcL s.pc)) [(0, 4), (1, 4), (2, 4), (4, 4), (5, 0), (3, 1), (6, 2), (7, 4)] (by kernel_rfl) (by kernel_rfl) (fun _ _ _ _ _ h => h) (HT1.out.all.mid) ?_
   iterate 4 (refine Text.purek rfl rfl (fun K hK => ⟨_, fun w' => by go_simp <;> rfl, ?_⟩); go_simp; refine hK _ ?_; clear hK K)
   refine Text.heldk rfl rfl (fun K hK => ?_)
   refine ⟨_, fun w' hw' => exec_loadv 39 (.tmp 20) rfl 2 (by kernel_rfl) w.heap.size 2 (pcL s.pc) (by go_simp) hw' rfl, ?_⟩
   go_simp
   refine hK _ ?_
   clear hK K
   (refine Text.readk rfl rfl (fun K hK => ⟨_, by go_simp <;> rfl, ?_⟩); go_simp; refine hK _ ?_; clear hK K)
   refine Text.eff rfl rfl (fun K hK => ?_)
   refine wp_lookG _ (.tmp 19) (.tmp 21) 79 39 4 rfl pidKeyed mapPB (.bool false) boolZero m5 _ rfl (HST1.out.kept (Below.refl _ _).drew).maps.held s.pc rfl HKP.out ?_
   rw [h1]
   go_simp
   refine hK _ _ (HT1.out.kept (Below.refl _ _).drew).all.mid ?_
   clear hK K
   (refine Text.purek rfl rfl (fun K hK => ⟨_, fun w' => by go_simp <;> rfl, ?_⟩); go_simp; refine hK _ ?_; clear hK K)
   refine Text.done ?_
   go_wp2_with fail
   go_ret
   exact ⟨ret_int (by rw [HTB.out, h1]; rfl), HB1.out.drew⟩
 have e3 : (s.kind == 3) = false := by simp [h3]
 by_cases hk1 : s.kind = 1
 ·
  have e1 : (s.kind == 1) = true := by simp [hk1]
  have HTB : Hid (refE st s made = (if fitB st s.refs made then 0 else 1)) := Lib.hid (by rw [refE, if_neg h3, if_pos hk1])
  clear h3 hk1
  cases h1 : fitB st s.refs made with
  | false =>
   go_enter Try.func50, Try.ntmps50
   go_wp2_with (first
    | ((with_reducible show OpW 4); refine wpList_box _ rfl 44 (.tmp 1) rfl (stC2 s B0 p0 d0 B1 p1 d1) rfl ?_; intro w1 a1 a2 a3; have HB1 := Lib.hid a2; have HT1 := Lib.hid a1; have HST1 := Lib.hid (HST.out.kept a2); have r0 := a1.get (j := 0) rfl; have r1 := a1.get (j := 1) rfl; have r4 := a1.get (j := 4) rfl; have q12 := (HST.out.blk.kept a2).get (j := 12) rfl; clear a1 a2 a3) | (go_at_call 84; refine (fit_any _ b _ _ _ _ _ _ _ _ _ _ _ _ _ _ _ _ _ _ _ _ _ _ _ _ _ _ _ _ HST1.out _ _ _ _ (HL1.out.kept stay_rf HB1.out) _ _ _ _ (HM.out.kept stay_sp HB1.out)).mono ?_; rintro e w2 ⟨rfl, b2⟩; rw [h1]; have HB2 := Lib.hid (below_then HB1.out b2); clear b2))
   go_ret
   exact ⟨ret_int (by rw [HTB.out, h1]; rfl), HB2.out⟩
  | true =>
   go_enter Try.func50, Try.ntmps50
   go_wp2_with (first
    | ((with_reducible show OpW 4); refine wpList_box _ rfl 44 (.tmp 1) rfl (stC2 s B0 p0 d0 B1 p1 d1) rfl ?_; intro w1 a1 a2 a3; have HB1 := Lib.hid a2; have HT1 := Lib.hid a1; have HST1 := Lib.hid (HST.out.kept a2); have r0 := a1.get (j := 0) rfl; have r1 := a1.get (j := 1) rfl; have r4 := a1.get (j := 4) rfl; have q12 := (HST.out.blk.kept a2).get (j := 12) rfl; clear a1 a2 a3) | (go_at_call 84; refine (fit_any _ b _ _ _ _ _ _ _ _ _ _ _ _ _ _ _ _ _ _ _ _ _ _ _ _ _ _ _ _ HST1.out _ _ _ _ (HL1.out.kept stay_rf HB1.out) _ _ _ _ (HM.out.kept stay_sp HB1.out)).mono ?_; rintro e w2 ⟨rfl, b2⟩; rw [h1]; have HB2 := Lib.hid (below_then HB1.out b2); clear b2))
   go_ret
   exact ⟨ret_int (by rw [HTB.out, h1]; rfl), HB2.out⟩
 have e1 : (s.kind == 1) = false := by simp [hk1]
 have HTB : Hid (refE st s made = if s.sts.all (fun id => (st.pl id).isSome) then (if s.kind = 4 then (if s.sts.all st.drop then 0 else 6) else 0) else 4) := Lib.hid (by rw [refE, if_neg h3, if_neg hk1])
 clear h3 hk1
 by_cases h4 : s.kind = 4
 ·
  have e4 : (s.kind == 4) = true := by simp [h4]
  have HTC : Hid (s.sts.all (fun id => (st.pl id).isSome) = true → refE st s made = if s.sts.all st.drop then 0 else 6) := Lib.hid (fun h => by rw [HTB.out, h, if_pos rfl, if_pos h4])
  clear h4
  go_enter Try.func50, Try.ntmps50
  go_wp2_with (first
   | ((with_reducible show OpW 4); refine wpList_box _ rfl 44 (.tmp 1) rfl (stC2 s B0 p0 d0 B1 p1 d1) rfl ?_; intro w1 a1 a2 a3; have HB1 := Lib.hid a2; have HT1 := Lib.hid a1; have HST1 := Lib.hid (HST.out.kept a2); have r0 := a1.get (j := 0) rfl; have r1 := a1.get (j := 1) rfl; have r4 := a1.get (j := 4) rfl; have q12 := (HST.out.blk.kept a2).get (j := 12) rfl; clear a1 a2 a3))
  clear r0 r1 r4
  go_loopw [36] (fun iv wr => ∃ k : Nat, k ≤ p0 ∧ iv = .int .i64 (k : Int) ∧ Hid ((s.sts.take k).all (fun id => (st.pl id).isSome) = true) ∧ Hid (Below w1.heap.size w1 wr)) (fun iv _ => p0 - (intOf iv).toNat)
  case atStart => exact ⟨0, by omega, rfl, Lib.hid rfl, Lib.hid (Below.refl _ _)⟩
  case round =>
   obtain ⟨k, hk, rfl, hall, hb⟩ := hrel
   obtain ⟨wx, hwx⟩ : ∃ x, x = wr := ⟨_, rfl⟩
   rw [← hwx] at hb ⊢
   clear hwx
   have HBx := Lib.hid (below_thenB HB1.out HB1.out.size hb.out)
   by_cases hlt : k < p0
   ·
    obtain ⟨id, g, o, hs, e0, pp1⟩ := HL0.out.str_at HBx.out hlt
    subst e0
    have HKS := Lib.hid (keyS id (reach_key (HL0.out.str_ok hs)))
    have HX := Lib.hid hs
    have q7 := (HST1.out.blk.kept hb.out).get (j := 7) rfl
    clear hs
    cases h1 : st.pl id with
    | none =>
     have HR : Hid (refE st s made = 4) := Lib.hid (by rw [HTB.out, all_miss HX.out (by rw [h1]; rfl)]; rfl)
     go_wp2_with (first
      | ((with_reducible show OpW 46); refine wpList_lookokFv _ rfl (.tmp 44) (.tmp 45) 77 9 3 rfl strKeyed mapSI (.int .i64 0) intZero m0 _ rfl (HST1.out.kept hb.out).maps.pl id rfl HKS.out (.int .i64 0) false (by rw [h1]; rfl) (by rw [h1]; rfl) ?_))
     go_ret
     exact ⟨ret_int HR.out, HBx.out⟩
    | some i =>
     have HF : Hid ((s.sts.take (k + 1)).all (fun id => (st.pl id).isSome) = true) := Lib.hid (all_step HX.out hall.out (by rw [h1]; rfl))
     go_wp2_with (first
      | ((with_reducible show OpW 46); refine wpList_lookokFv _ rfl (.tmp 44) (.tmp 45) 77 9 3 rfl strKeyed mapSI (.int .i64 0) intZero m0 _ rfl (HST1.out.kept hb.out).maps.pl id rfl HKS.out (.int .i64 (i : Int)) true (by rw [h1]; rfl) (by rw [h1]; rfl) ?_))
     go_roundw
     case rel => exact ⟨k + 1, by omega, by go_num, HF, hb⟩
     case measure => simp [intOf]; omega
   ·
    obtain rfl : k = p0 := by omega
    have HAL : Hid (s.sts.all (fun id => (st.pl id).isSome) = true) := Lib.hid (all_end HN0.out hall.out)
    have r0 := (HT1.out.kept hb.out).get (j := 0) rfl
    have r1 := (HT1.out.kept hb.out).get (j := 1) rfl
    go_wp2_with fail
    clear r0 r1
    go_loopw [58] (fun iv wr => ∃ j : Nat, j ≤ k ∧ iv = .int .i64 (j : Int) ∧ Hid ((s.sts.take j).all st.drop = true) ∧ Hid (Below w1.heap.size w1 wr)) (fun iv _ => k - (intOf iv).toNat)
    case atStart => exact ⟨0, by omega, rfl, Lib.hid rfl, hb⟩
    case round =>
     obtain ⟨j, hj, rfl, hall2, hb2⟩ := hrel
     obtain ⟨wy, hwy⟩ : ∃ x, x = wr := ⟨_, rfl⟩
     rw [← hwy] at hb2 ⊢
     clear hwy
     have HBy := Lib.hid (below_thenB HB1.out HB1.out.size hb2.out)
     by_cases hjk : j < k
     ·
      obtain ⟨id, g, o, hs, e0, pp1⟩ := HL0.out.str_at HBy.out hjk
      subst e0
      have HKS := Lib.hid (keyS id (reach_key (HL0.out.str_ok hs)))
      have HX := Lib.hid hs
      have q10 := (HST1.out.blk.kept hb2.out).get (j := 10) rfl
      clear hs
      cases h1 : st.drop id with
      | true =>
       have HF : Hid ((s.sts.take (j + 1)).all st.drop = true) := Lib.hid (all_step HX.out hall2.out h1)
       go_wp2_with (first
        | ((with_reducible show OpW 67); refine wpList_lookGv _ rfl (.tmp 65) (.tmp 66) 78 9 4 rfl strKeyed mapSB (.bool false) boolZero m3 _ rfl (HST1.out.kept hb2.out).maps.drop id rfl HKS.out (.bool true) (by rw [h1]) ?_))
       go_roundw
       case rel => exact ⟨j + 1, by omega, by go_num, HF, hb2⟩
       case measure => simp [intOf]; omega
      | false =>
       have HR : Hid (refE st s made = 6) := Lib.hid (by rw [HTC.out HAL.out, all_miss HX.out h1]; rfl)
       go_wp2_with (first
        | ((with_reducible show OpW 67); refine wpList_lookGv _ rfl (.tmp 65) (.tmp 66) 78 9 4 rfl strKeyed mapSB (.bool false) boolZero m3 _ rfl (HST1.out.kept hb2.out).maps.drop id rfl HKS.out (.bool false) (by rw [h1]) ?_))
       go_ret
       exact ⟨ret_int HR.out, HBy.out⟩
     ·
      obtain rfl : j = k := by omega
      have HR : Hid (refE st s made = 0) := Lib.hid (by rw [HTC.out HAL.out, all_end HN0.out hall2.out]; rfl)
      go_wp2_with fail
      go_ret
      exact ⟨ret_int HR.out, HBy.out⟩
 ·
  have e4 : (s.kind == 4) = false := by simp [h4]
  have HTC : Hid (s.sts.all (fun id => (st.pl id).isSome) = true → refE st s made = 0) := Lib.hid (fun h => by rw [HTB.out, h, if_pos rfl, if_neg h4])
  clear h4
  go_enter Try.func50, Try.ntmps50
  go_wp2_with (first
   | ((with_reducible show OpW 4); refine wpList_box _ rfl 44 (.tmp 1) rfl (stC2 s B0 p0 d0 B1 p1 d1) rfl ?_; intro w1 a1 a2 a3; have HB1 := Lib.hid a2; have HT1 := Lib.hid a1; have HST1 := Lib.hid (HST.out.kept a2); have r0 := a1.get (j := 0) rfl; have r1 := a1.get (j := 1) rfl; have r4 := a1.get (j := 4) rfl; have q12 := (HST.out.blk.kept a2).get (j := 12) rfl; clear a1 a2 a3))
  clear r0 r1 r4
  go_loopw [36] (fun iv wr => ∃ k : Nat, k ≤ p0 ∧ iv = .int .i64 (k : Int) ∧ Hid ((s.sts.take k).all (fun id => (st.pl id).isSome) = true) ∧ Hid (Below w1.heap.size w1 wr)) (fun iv _ => p0 - (intOf iv).toNat)
  case atStart => exact ⟨0, by omega, rfl, Lib.hid rfl, Lib.hid (Below.refl _ _)⟩
  case round =>
   obtain ⟨k, hk, rfl, hall, hb⟩ := hrel
   obtain ⟨wx, hwx⟩ : ∃ x, x = wr := ⟨_, rfl⟩
   rw [← hwx] at hb ⊢
   clear hwx
   have HBx := Lib.hid (below_thenB HB1.out HB1.out.size hb.out)
   by_cases hlt : k < p0
   ·
    obtain ⟨id, g, o, hs, e0, pp1⟩ := HL0.out.str_at HBx.out hlt
    subst e0
    have HKS := Lib.hid (keyS id (reach_key (HL0.out.str_ok hs)))
    have HX := Lib.hid hs
    have q7 := (HST1.out.blk.kept hb.out).get (j := 7) rfl
    clear hs
    cases h1 : st.pl id with
    | none =>
     have HR : Hid (refE st s made = 4) := Lib.hid (by rw [HTB.out, all_miss HX.out (by rw [h1]; rfl)]; rfl)
     go_wp2_with (first
      | ((with_reducible show OpW 46); refine wpList_lookokFv _ rfl (.tmp 44) (.tmp 45) 77 9 3 rfl strKeyed mapSI (.int .i64 0) intZero m0 _ rfl (HST1.out.kept hb.out).maps.pl id rfl HKS.out (.int .i64 0) false (by rw [h1]; rfl) (by rw [h1]; rfl) ?_))
     go_ret
     exact ⟨ret_int HR.out, HBx.out⟩
    | some i =>
     have HF : Hid ((s.sts.take (k + 1)).all (fun id => (st.pl id).isSome) = true) := Lib.hid (all_step HX.out hall.out (by rw [h1]; rfl))
     go_wp2_with (first
      | ((with_reducible show OpW 46); refine wpList_lookokFv _ rfl (.tmp 44) (.tmp 45) 77 9 3 rfl strKeyed mapSI (.int .i64 0) intZero m0 _ rfl (HST1.out.kept hb.out).maps.pl id rfl HKS.out (.int .i64 (i : Int)) true (by rw [h1]; rfl) (by rw [h1]; rfl) ?_))
     go_roundw
     case rel => exact ⟨k + 1, by omega, by go_num, HF, hb⟩
     case measure => simp [intOf]; omega
   ·
    obtain rfl : k = p0 := by omega
    have HAL : Hid (s.sts.all (fun id => (st.pl id).isSome) = true) := Lib.hid (all_end HN0.out hall.out)
    have r0 := (HT1.out.kept hb.out).get (j := 0) rfl
    have r1 := (HT1.out.kept hb.out).get (j := 1) rfl
    go_wp2_with fail
    go_ret
    exact ⟨ret_int (HTC.out HAL.out), HBx.out⟩
end Go.Proofs.Ytboglaokdgnpaaa
/- collector.copies, collector.clone. -/
namespace Go.Proofs.Ytboglaokdgnpaaa
open Go Go.RowKit Gf Sha

/-- A stripe whose refs lie in a block of refs. -/
def rSpT : Rdg Sp := fun w cs x => rSp w cs x ∧ ∀ (A : Option Addr) (n c : Nat), Value.slice A n c ∈ cs → ∀ a, A = some a → ∃ l, BL w a.block 73 l
/-- A list in a block of its own whose parts read now. -/
def OT {α : Type} (R : Rdg α) (s : Nat) (te : TypeId) (base : Nat) (w : World) (v : Value) (L : List α) : Prop :=
 ∃ css : List (List Value), css.length = L.length ∧ (∀ cs ∈ css, cs.length = s) ∧ (∀ k (h : k < L.length) (h' : k < css.length), R w css[k] L[k]) ∧ RW w te s v L.length css.flatten ∧ ∀ b, v.ownBlock = some b → base ≤ b
theorem rSpT.kp {w w' : World} {cs : List Value} {x : Sp} (h : rSpT w cs x) {S : Nat → Prop} (hk : Kp S w w') (hs : ∀ i, i < w.heap.size → S i → ∃ t l, BL w i t l ∧ t ≠ 73) : rSpT w' cs x := by
 obtain ⟨⟨A, n, c, rfl, h0, r⟩, h2⟩ := h
 have ns : ∀ (A' : Option Addr) (n' c' : Nat), Value.slice A' n' c' ∈ [Value.string (strB x.id), .int .i64 x.v, .int .i64 x.b, .int .i64 x.d, .int .i64 x.t, .slice A n c] → ∀ a, A' = some a → ¬ S a.block := fun A' n' c' hm a ha hS => by
  obtain ⟨l, hb⟩ := h2 A' n' c' hm a ha
  obtain ⟨t, l', hb', ht⟩ := hs _ hb.lt hS
  exact ht (hb'.ty hb)
 refine ⟨⟨A, n, c, rfl, h0.kpn (fun _ _ h => h) hk (ns A n c (by simp)), r⟩, fun A' n' c' hm a ha => ?_⟩
 obtain ⟨l, hb⟩ := h2 A' n' c' hm a ha
 exact ⟨l, hk.bl hb (ns A' n' c' hm a ha)⟩
theorem stay_spT : Stay rSpT := fun _ _ _ _ h hb => h.kp (S := fun _ => False) (Kp.of_below hb) (fun _ _ h => h.elim)
section
variable {α : Type} {R : Rdg α} {s base : Nat} {te : TypeId} {w w' : World} {v : Value} {L : List α}
theorem OT.kept (h : OT R s te base w v L) (hR : Stay R) (hb : Below w.heap.size w w') : OT R s te base w' v L :=
 let ⟨css, h1, h2, h3, h4, h5⟩ := h; ⟨css, h1, h2, fun k hk hk' => hR _ _ _ _ (h3 k hk hk') hb, h4.kept hb, h5⟩
theorem OT.of_ol {w0 : World} (h : OL R s te w0 w v L) (hR : Stay R) (hb : Below w0.heap.size w0 w) : OT R s te w0.heap.size w v L :=
 let ⟨css, h1, h2, h3, h4, h5⟩ := h; ⟨css, h1, h2, fun k hk hk' => hR _ _ _ _ (h3 k hk hk') hb, h4, h5⟩
theorem OT.ls {b : Nat} (h : OT R s te base w v L) (hl : L.length * b ≤ lim) : ∃ A c, v = .slice A L.length c ∧ LS R s b w A L.length c L := by
 obtain ⟨css, h1, h2, h3, h4, h5⟩ := h
 obtain ⟨A, c, rfl, hc⟩ := h4.form
 refine ⟨A, c, rfl, rfl, hc, hl, fun k hk => ?_⟩
 obtain ⟨g, o, c', e, _, hat⟩ := h4.at_ (by omega)
 cases e
 have hk' : k < css.length := by omega
 exact ⟨g, o, css[k], rfl, at_flatten h2 hat hk', h3 k hk hk'⟩
theorem LS.mono {R' : Rdg α} {b n c : Nat} {A : Option Addr} (h : LS R s b w A n c L) (hR : ∀ cs x, R w cs x → R' w cs x) : LS R' s b w A n c L :=
 ⟨h.1, h.2.1, h.2.2.1, fun k hk => let ⟨g, o, cs, e, h1, h2⟩ := h.2.2.2 k hk; ⟨g, o, cs, e, h1, hR _ _ h2⟩⟩
end
theorem flatten_set {s : Nat} : ∀ {css : List (List Value)} {i j : Nat} {u : Value}, (∀ cs ∈ css, cs.length = s) → j < s → (h : i < css.length) → css.flatten.set (i * s + j) u = (css.set i (css[i].set j u)).flatten
 | [], i, j, u, _, _, h => absurd h (by simp)
 | c :: r, 0, j, u, h2, hj, h => by
  have hc := h2 c (by simp)
  rw [Nat.zero_mul, Nat.zero_add, List.flatten_cons, List.set_append_left _ _ (by omega)]
  simp
 | c :: r, i + 1, j, u, h2, hj, h => by
  have hc := h2 c (by simp)
  rw [List.flatten_cons, List.set_append_right _ _ (by rw [hc, Nat.succ_mul]; omega), hc, show (i + 1) * s + j - s = i * s + j by rw [Nat.succ_mul]; omega, flatten_set (fun cs h => h2 cs (by simp [h])) hj (by simpa using h)]
  simp
/-- One cell of a list turned. -/
theorem RW.setc {w w' : World} {te : TypeId} {s n g o c j : Nat} {l : List Value} {u : Value} (h : RW w te s (.slice (some ⟨g, o, none⟩) n c) n l) (cs : List Value) (hb : BL w g te cs) (hb' : BL w' g te (cs.set (o + j) u)) : RW w' te s (.slice (some ⟨g, o, none⟩) n c) n (l.set j u) := by
 rcases h.2 with ⟨e, _⟩ | ⟨g', o', c', cs', e, hbl, h1, h2, h3, h4⟩
 ·
  cases e
 ·
  cases e
  have hcs : cs = cs' := by
   have h9 : w.heap[g]? = some (.cells cs.toArray te) := hb
   have h10 : w.heap[g]? = some (.cells cs'.toArray te) := hbl
   rw [h9] at h10
   injection h10 with h10
   injection h10 with h10 _
   simpa using h10
  subst hcs
  refine ⟨by rw [List.length_set]; exact h.1, .inr ⟨g, o, c, _, rfl, hb', h1, h2, by rw [List.length_set]; exact h3, ?_⟩⟩
  rw [List.drop_set, if_neg (by omega), List.take_set, h4, show o + j - o = j by omega]
theorem RW.blk {w : World} {te : TypeId} {s n g o c : Nat} {l : List Value} (h : RW w te s (.slice (some ⟨g, o, none⟩) n c) n l) : ∃ cs, BL w g te cs ∧ o + n * s ≤ cs.length := by
 rcases h.2 with ⟨e, _⟩ | ⟨g', o', c', cs', e, hbl, h1, h2, h3, h4⟩
 ·
  cases e
 ·
  cases e
  exact ⟨cs', hbl, Nat.le_trans (Nat.add_le_add_left (Nat.mul_le_mul_right _ h1) _) h3⟩
/-- The cells of stripes, of which the first i have refs of their own. -/
def CP (w wr : World) (v : Value) (n i : Nat) (L : List Sp) : Prop :=
 ∃ css : List (List Value), css.length = n ∧ (∀ cs ∈ css, cs.length = 6) ∧ (∀ k (h : k < L.length) (h' : k < css.length), k < i → rSpT wr css[k] L[k]) ∧ (∀ k (h : k < L.length) (h' : k < css.length), i ≤ k → rSp w css[k] L[k]) ∧ RW wr 61 6 v n css.flatten
theorem slSz (t : TypeId) (hz : (Try.prog.info? t).map (·.size) = some 1) (w : World) : (sizeOf t).run Try.prog w = .ok 1 w := szOne _ _ hz w

set_option maxRecDepth 100000 in
set_option maxHeartbeats 2000000 in
theorem copies_any (A : Option Addr) (n c : Nat) (L : List Sp) (w : World) (h : LS rSp 6 72 w A n c L) :
  Calls Try.prog 60 #[.slice A n c] w fun e w' => ∃ A' c', e = .returned (.slice A' n c') ∧ OT rSpT 6 61 w.heap.size w' (.slice A' n c') L ∧ Below w.heap.size w w' := by
 have hn := h.len_le
 have HL := Lib.hid h.1
 have H := Lib.hid h
 clear h
 go_enter Try.func60, Try.ntmps60
 go_wp2_with (first
  | (go_at_call 90; refine (clone_sp A n c L w H.out).mono ?_; rintro e w1 ⟨A', c', rfl, o1, b1⟩; have HO1 := Lib.hid o1; have HB1 := Lib.hid b1; clear o1 b1))
 obtain ⟨css0, k1, k2, k3, k4, k5⟩ := HO1.out
 rw [HL.out] at k4
 have HOWN := Lib.hid k5
 have HC0 : Hid (CP w w1 (.slice A' n c') n 0 L) := Lib.hid ⟨css0, k1.trans HL.out, k2, (fun _ _ _ h => absurd h (by omega)), (fun k h h' _ => k3 k h h'), k4⟩
 clear k1 k2 k3 k4 k5 HO1
 go_loopw [9] (fun iv wr => ∃ i : Nat, i ≤ n ∧ iv = .int .i64 (i : Int) ∧ Hid (CP w wr (.slice A' n c') n i L) ∧ Hid (Below w.heap.size w wr)) (fun iv _ => n - (intOf iv).toNat)
 case atStart => exact ⟨0, by omega, rfl, HC0, HB1⟩
 case round =>
  obtain ⟨i, hi, rfl, hc, hb⟩ := hrel
  obtain ⟨wx, hwx⟩ : ∃ x, x = wr := ⟨_, rfl⟩
  rw [← hwx] at hc hb ⊢
  clear hwx
  by_cases hlt : i < n
  ·
   obtain ⟨css, k1, k2, k3, k4, k5⟩ := hc.out
   obtain ⟨g, o, c2, e9, _, hat⟩ := k5.at_ (by omega)
   cases e9
   have hil : i < L.length := by rw [HL.out]; exact hlt
   have hic : i < css.length := by rw [k1]; exact hlt
   have hp : At wx g (o + i * 6) css[i] := at_flatten k2 hat hic
   obtain ⟨B, m, d, eB, hr, rest⟩ := k4 i hil hic (Nat.le_refl _)
   rw [eB] at hp
   have q5 : wx.cell? ⟨g, o + i * 6 + 5, none⟩ = some (.slice B m d) := hp.get (j := 5) rfl rfl
   have HR := Lib.hid hr
   have HRL := Lib.hid hr.1
   have HRN := Lib.hid hr.len_le
   obtain ⟨cells, hbl, hlen⟩ := k5.blk
   have HBL := Lib.hid hbl
   have HLEN := Lib.hid hlen
   have K1 := Lib.hid k1
   have K2 := Lib.hid k2
   have K3 := Lib.hid k3
   have K4 := Lib.hid k4
   have K5 := Lib.hid k5
   have HEB := Lib.hid eB
   have HREST := Lib.hid rest
   have HG : Hid (w.heap.size ≤ g) := Lib.hid (HOWN.out g rfl)
   clear k1 k2 k3 k4 k5 hat hp hr rest hbl hlen eB hc
   go_wp2_with (first
    | (go_at_call 91; refine (clone_rf B m d _ wx (HR.out.kept stay_rf hb.out)).mono ?_; rintro e w2 ⟨B', d', rfl, o2, b2⟩; have HO2 := Lib.hid o2; have HB2 := Lib.hid b2; clear o2 b2)
    | ((with_reducible show OpN); refine wpList_store1 _ rfl 40 (.tmp 21) (.tmp 19) rfl (rfSz _) g (o + i * 6 + 5) _ _ (.slice B' m d') (by go_simp) rfl (HBL.out.kept HB2.out) rfl rfl (by have := HLEN.out; omega) ?_; intro w3 a1 a2 a3; have HG3 := Lib.hid a1; have HK3 := Lib.hid a2; clear a1 a2 a3))
   have hB2 := HB2.out
   have HB3 : Hid (Below w.heap.size w w3) := Lib.hid (((Kp.of_below (S := fun _ => False) (below_thenB hb.out hb.out.size HB2.out)).after HK3.out (fun j hj e => by have := HG.out; omega)).below (Nat.le_refl _) (fun _ h => h.elim))
   have hrw3 := (K5.out.kept hB2).setc (j := i * 6 + 5) _ (HBL.out.kept hB2) (by rw [← Nat.add_assoc]; exact HG3.out)
   rw [flatten_set K2.out (by decide) (by rw [K1.out]; exact hlt)] at hrw3
   have hrf : OL rRf 3 73 wx w3 (.slice B' m d') (L[i]'(by rw [HL.out]; exact hlt)).refs := HO2.out.kp HK3.out (fun b hb' e => by
    obtain ⟨_, r2⟩ := HO2.out.row
    exact r2.ne_bl (HBL.out.kept hB2) (by decide) b hb' e)
   have HCP3 : Hid (CP w w3 (.slice (some ⟨g, o, none⟩) n c') n (i + 1) L) := Lib.hid (by
    refine ⟨_, by rw [List.length_set]; exact K1.out, fun cs hcs => ?_, fun k h h' hk => ?_, fun k h h' hk => ?_, hrw3⟩
    ·
     rcases List.mem_or_eq_of_mem_set hcs with h9 | rfl
     ·
      exact K2.out cs h9
     ·
      rw [List.length_set]; exact K2.out _ (List.getElem_mem _)
    ·
     by_cases hki : k = i
     ·
      subst hki
      rw [List.getElem_set_self, HEB.out]
      obtain ⟨A9, c9, e9, l9⟩ := (hrf.to_n (R' := rRf) (fun _ _ _ h => h)).ls (b := 32) (by have := HRL.out; have := HRN.out; unfold lim; omega)
      rw [HRL.out] at e9 l9
      cases e9
      refine ⟨⟨B', m, d', rfl, l9, HREST.out⟩, fun A' n' c' hm a ha => ?_⟩
      simp only [List.set_cons_succ, List.set_cons_zero, List.mem_cons, List.not_mem_nil, or_false, Value.slice.injEq, reduceCtorEq, false_or] at hm
      obtain ⟨rfl, rfl, rfl⟩ := hm
      obtain ⟨_, r2⟩ := hrf.row
      have h9 := HRL.out
      rw [h9] at r2
      exact r2.tyb ha
     ·
      rw [List.getElem_set_ne (fun e => hki e.symm)]
      have h9 := K3.out k h (by rw [K1.out, ← HL.out]; exact h) (by omega)
      exact (stay_spT _ _ _ _ h9 hB2).kp HK3.out (fun j hj e => by subst e; exact ⟨_, _, HBL.out.kept hB2, by decide⟩)
    ·
     rw [List.getElem_set_ne (by omega)]
     exact K4.out k h (by rw [K1.out, ← HL.out]; exact h) (by omega))
   go_roundw
   case rel => exact ⟨i + 1, by omega, by go_num, HCP3, HB3⟩
   case measure => simp [intOf]; omega
  ·
   obtain rfl : n = i := by omega
   go_wp2_with fail
   go_ret
   obtain ⟨css, k1, k2, k3, _, k5⟩ := hc.out
   refine ⟨A', c', rfl, ⟨css, k1.trans HL.out.symm, k2, fun k h h' => k3 k h h' (by rw [← HL.out]; exact h), ?_, HOWN.out⟩, hb.out⟩
   rw [HL.out]; exact k5
end Go.Proofs.Ytboglaokdgnpaaa
/- collector.clone. -/
namespace Go.Proofs.Ytboglaokdgnpaaa
open Go Go.RowKit Gf Sha

theorem OT.kp {α : Type} {R : Rdg α} {s base : Nat} {te : TypeId} {w w' : World} {v : Value} {L : List α} {S : Nat → Prop} (h : OT R s te base w v L) (hk : Kp S w w') (hn : ∀ b, v.ownBlock = some b → ¬ S b) (hR : ∀ cs x, R w cs x → R w' cs x) : OT R s te base w' v L :=
 let ⟨css, h1, h2, h3, h4, h5⟩ := h; ⟨css, h1, h2, fun k hk hk' => hR _ _ (h3 k hk hk'), h4.kp hk hn, h5⟩
theorem OT.base {α : Type} {R : Rdg α} {s base base' : Nat} {te : TypeId} {w : World} {v : Value} {L : List α} (h : OT R s te base w v L) (hb : base' ≤ base) : OT R s te base' w v L :=
 let ⟨css, h1, h2, h3, h4, h5⟩ := h; ⟨css, h1, h2, h3, h4, fun b e => Nat.le_trans hb (h5 b e)⟩
theorem OT.of {α : Type} {R : Rdg α} {s base : Nat} {te : TypeId} {w0 w : World} {v : Value} {L : List α} (h : OL R s te w0 w v L) (hR : Stay R) (hb : Below w0.heap.size w0 w) (hbase : base ≤ w0.heap.size) : OT R s te base w v L := (OT.of_ol h hR hb).base hbase
theorem OT.own {α : Type} {R : Rdg α} {s base : Nat} {te : TypeId} {w : World} {v : Value} {L : List α} (h : OT R s te base w v L) : ∀ b, v.ownBlock = some b → base ≤ b := let ⟨_, _, _, _, _, h5⟩ := h; h5
/-- The lists of a situation, each in a block of its own. -/
structure ClO (base : Nat) (w : World) (b0 : Option Addr) (k0 d0 : Nat) (b1 : Option Addr) (k1 d1 : Nat) (b2 : Option Addr) (k2 d2 : Nat) (b3 : Option Addr) (k3 d3 : Nat) (b4 : Option Addr) (k4 d4 : Nat) (b5 : Option Addr) (k5 d5 : Nat) (x : Si) : Prop where
 sp : OT rSpT 6 61 base w (.slice b0 k0 d0) x.sp
 need : OT rStr 1 9 base w (.slice b1 k1 d1) x.need
 cond : OT rStr 1 9 base w (.slice b2 k2 d2) x.cond
 drop : OT rStr 1 9 base w (.slice b3 k3 d3) x.drop
 carr : OT rStr 1 9 base w (.slice b4 k4 d4) x.carr
 held : OT rPc 2 39 base w (.slice b5 k5 d5) x.held
def siZ : List Value := siC none 0 0 none 0 0 none 0 0 none 0 0 none 0 0 none 0 0 0
theorem siZero : (Try.prog.info? 33).map (·.zero) = some (some (.agg siZ.toArray)) := by kernel_rfl
theorem bldSi (_u : Unit) (b0 : Option Addr) (k0 d0 : Nat) (b1 : Option Addr) (k1 d1 : Nat) (b2 : Option Addr) (k2 d2 : Nat) (b3 : Option Addr) (k3 d3 : Nat) (b4 : Option Addr) (k4 d4 : Nat) (b5 : Option Addr) (k5 d5 : Nat) (p : Int) (w : World) :
  (Instr.build 33 #[(0, .slice b0 k0 d0), (1, .slice b1 k1 d1), (2, .slice b2 k2 d2), (3, .slice b3 k3 d3), (4, .slice b4 k4 d4), (5, .slice b5 k5 d5), (6, .int .i64 p)]).run Try.prog w = .ok (.agg (siC b0 k0 d0 b1 k1 d1 b2 k2 d2 b3 k3 d3 b4 k4 d4 b5 k5 d5 p).toArray) w := by kernel_rfl
theorem one_si (b0 : Option Addr) (k0 d0 : Nat) (b1 : Option Addr) (k1 d1 : Nat) (b2 : Option Addr) (k2 d2 : Nat) (b3 : Option Addr) (k3 d3 : Nat) (b4 : Option Addr) (k4 d4 : Nat) (b5 : Option Addr) (k5 d5 : Nat) (p : Int) : ∀ v ∈ siC b0 k0 d0 b1 k1 d1 b2 k2 d2 b3 k3 d3 b4 k4 d4 b5 k5 d5 p, v.oneCell' = true := one_val _ rfl
theorem BL.s7 {w : World} {g : Nat} {t : TypeId} {a0 a1 a2 a3 a4 a5 : Option Addr} {n0 c0 n1 c1 n2 c2 n3 c3 n4 c4 n5 c5 : Nat} {p : Int} (h : BL w g t (siC a0 n0 c0 a1 n1 c1 a2 n2 c2 a3 n3 c3 a4 n4 c4 a5 n5 c5 p)) : w.cell? ⟨g, 0, none⟩ = some (.slice a0 n0 c0) ∧ w.cell? ⟨g, 1, none⟩ = some (.slice a1 n1 c1) ∧ w.cell? ⟨g, 2, none⟩ = some (.slice a2 n2 c2) ∧ w.cell? ⟨g, 3, none⟩ = some (.slice a3 n3 c3) ∧ w.cell? ⟨g, 4, none⟩ = some (.slice a4 n4 c4) ∧ w.cell? ⟨g, 5, none⟩ = some (.slice a5 n5 c5) ∧ w.cell? ⟨g, 6, none⟩ = some (.int .i64 p) :=
 ⟨h.get (j := 0) rfl, h.get (j := 1) rfl, h.get (j := 2) rfl, h.get (j := 3) rfl, h.get (j := 4) rfl, h.get (j := 5) rfl, h.get (j := 6) rfl⟩
theorem slen {α : Type} {R : Rdg α} {s base : Nat} {te : TypeId} {w : World} {A : Option Addr} {k c : Nat} {L : List α} (h : OT R s te base w (.slice A k c) L) : L.length = k := by
 obtain ⟨css, _, _, _, h4, _⟩ := h
 obtain ⟨A', c', e, _⟩ := h4.form
 cases e; rfl
def ClR (x : Si) (w : World) (e : Ending) (w' : World) : Prop := ∃ b0 k0 d0 b1 k1 d1 b2 k2 d2 b3 k3 d3 b4 k4 d4 b5 k5 d5, e = .returned (.agg (siC b0 k0 d0 b1 k1 d1 b2 k2 d2 b3 k3 d3 b4 k4 d4 b5 k5 d5 x.pct).toArray) ∧ ClO w.heap.size w' b0 k0 d0 b1 k1 d1 b2 k2 d2 b3 k3 d3 b4 k4 d4 b5 k5 d5 x ∧ Below w.heap.size w w'
set_option maxRecDepth 100000 in
set_option maxHeartbeats 4000000 in
theorem clone_any (a0 : Option Addr) (n0 c0 : Nat) (a1 : Option Addr) (n1 c1 : Nat) (a2 : Option Addr) (n2 c2 : Nat) (a3 : Option Addr) (n3 c3 : Nat) (a4 : Option Addr) (n4 c4 : Nat) (a5 : Option Addr) (n5 c5 : Nat) (x : Si) (w : World) (hq : SiOk w a0 n0 c0 a1 n1 c1 a2 n2 c2 a3 n3 c3 a4 n4 c4 a5 n5 c5 x) :
  Calls Try.prog 51 #[.agg (siC a0 n0 c0 a1 n1 c1 a2 n2 c2 a3 n3 c3 a4 n4 c4 a5 n5 c5 x.pct).toArray] w (ClR x w) := by
 have H := Lib.hid hq
 clear hq
 go_enter Try.func51, Try.ntmps51
 go_wp2_with (first
  | ((with_reducible show OpW 1); refine wpList_box _ rfl 33 (.tmp 0) rfl (siC a0 n0 c0 a1 n1 c1 a2 n2 c2 a3 n3 c3 a4 n4 c4 a5 n5 c5 x.pct) rfl ?_; intro w1 a1 a2 a3; have HB1 := Lib.hid a2; have HS1 := Lib.hid a1; clear a1 a2 a3)
  | ((with_reducible show OpW 2); refine wpList_alloc _ rfl 33 rfl siZ siZero ?_; intro w2 a1 a2 a3; have HR2 := Lib.hid a1; have HB2 := Lib.hid (below_then HB1.out a2); have HS2 := Lib.hid (HS1.out.kept a2); clear a1 a2 a3))
 have HG : Hid (w.heap.size ≤ w1.heap.size) := Lib.hid HB1.out.size
 refine Text.wp_region_text (fun w' => w'.cell? ⟨w.heap.size, 0, none⟩ = some (.slice a0 n0 c0) ∧ w'.cell? ⟨w.heap.size, 1, none⟩ = some (.slice a1 n1 c1) ∧ w'.cell? ⟨w.heap.size, 2, none⟩ = some (.slice a2 n2 c2) ∧ w'.cell? ⟨w.heap.size, 3, none⟩ = some (.slice a3 n3 c3) ∧ w'.cell? ⟨w.heap.size, 4, none⟩ = some (.slice a4 n4 c4) ∧ w'.cell? ⟨w.heap.size, 5, none⟩ = some (.slice a5 n5 c5) ∧ w'.cell? ⟨w.heap.size, 6, none⟩ = some (.int .i64 x.pct)) [(0, 4), (3, 4), (6, 4), (9, 4), (12, 4), (15, 4), (18, 4), (1, 0), (4, 0), (7, 0), (10, 0), (13, 0), (16, 0), (19, 0), (2, 2), (5, 2), (8, 2), (11, 2), (14, 2), (17, 2), (20, 0), (21, 3)] (by kernel_rfl) (by kernel_rfl) (fun _ _ _ _ _ h => h) ((HS2.out.kept (Below.refl _ _).drew).s7) ?_
 iterate 7 (refine Text.purek rfl rfl (fun K hK => ⟨_, fun w' => by go_simp <;> rfl, ?_⟩); go_simp; refine hK _ ?_; clear hK K)
 iterate 7 (refine Text.heldk rfl rfl (fun K hK => ⟨_, fun w' hw' => by go_simp <;> rfl, ?_⟩); go_simp; refine hK _ ?_; clear hK K)
 refine Text.eff rfl rfl (fun K hK => ?_)
 go_simp
 refine (copies_any _ _ _ _ _ (H.out.sp.kept stay_sp HB2.out.drew)).mono ?_
 rintro e w3 ⟨b0, d0, rfl, o0, x3⟩
 have HX3 : Hid (Below w2.heap.size w2 w3) := Lib.hid (below_ofDrew x3)
 have HO0 : Hid (OT rSpT 6 61 w2.heap.size w3 (.slice b0 n0 d0) x.sp) := Lib.hid o0
 refine hK _ _ (HS2.out.kept HX3.out).s7 ?_
 clear hK K x3 o0
 refine Text.eff rfl rfl (fun K hK => ?_)
 go_simp
 refine (clone_str _ _ _ _ _ (H.out.need.kept stay_str (below_thenB HB2.out HB2.out.size HX3.out))).mono ?_
 rintro e w4 ⟨b1, d1, rfl, o1, x4⟩
 have HX4 : Hid (Below w2.heap.size w2 w4) := Lib.hid (below_thenB HX3.out HX3.out.size x4)
 have HO1 : Hid (OT rStr 1 9 w2.heap.size w4 (.slice b1 n1 d1) x.need) := Lib.hid (OT.of o1 stay_str x4 HX3.out.size)
 replace HO0 := Lib.hid (HO0.out.kept stay_spT x4)
 refine hK _ _ (HS2.out.kept HX4.out).s7 ?_
 clear hK K x4 o1
 refine Text.eff rfl rfl (fun K hK => ?_)
 go_simp
 refine (clone_str _ _ _ _ _ (H.out.cond.kept stay_str (below_thenB HB2.out HB2.out.size HX4.out))).mono ?_
 rintro e w5 ⟨b2, d2, rfl, o2, x5⟩
 have HX5 : Hid (Below w2.heap.size w2 w5) := Lib.hid (below_thenB HX4.out HX4.out.size x5)
 have HO2 : Hid (OT rStr 1 9 w2.heap.size w5 (.slice b2 n2 d2) x.cond) := Lib.hid (OT.of o2 stay_str x5 HX4.out.size)
 replace HO0 := Lib.hid (HO0.out.kept stay_spT x5)
 replace HO1 := Lib.hid (HO1.out.kept stay_str x5)
 refine hK _ _ (HS2.out.kept HX5.out).s7 ?_
 clear hK K x5 o2
 refine Text.eff rfl rfl (fun K hK => ?_)
 go_simp
 refine (clone_str _ _ _ _ _ (H.out.drop.kept stay_str (below_thenB HB2.out HB2.out.size HX5.out))).mono ?_
 rintro e w6 ⟨b3, d3, rfl, o3, x6⟩
 have HX6 : Hid (Below w2.heap.size w2 w6) := Lib.hid (below_thenB HX5.out HX5.out.size x6)
 have HO3 : Hid (OT rStr 1 9 w2.heap.size w6 (.slice b3 n3 d3) x.drop) := Lib.hid (OT.of o3 stay_str x6 HX5.out.size)
 replace HO0 := Lib.hid (HO0.out.kept stay_spT x6)
 replace HO1 := Lib.hid (HO1.out.kept stay_str x6)
 replace HO2 := Lib.hid (HO2.out.kept stay_str x6)
 refine hK _ _ (HS2.out.kept HX6.out).s7 ?_
 clear hK K x6 o3
 refine Text.eff rfl rfl (fun K hK => ?_)
 go_simp
 refine (clone_str _ _ _ _ _ (H.out.carr.kept stay_str (below_thenB HB2.out HB2.out.size HX6.out))).mono ?_
 rintro e w7 ⟨b4, d4, rfl, o4, x7⟩
 have HX7 : Hid (Below w2.heap.size w2 w7) := Lib.hid (below_thenB HX6.out HX6.out.size x7)
 have HO4 : Hid (OT rStr 1 9 w2.heap.size w7 (.slice b4 n4 d4) x.carr) := Lib.hid (OT.of o4 stay_str x7 HX6.out.size)
 replace HO0 := Lib.hid (HO0.out.kept stay_spT x7)
 replace HO1 := Lib.hid (HO1.out.kept stay_str x7)
 replace HO2 := Lib.hid (HO2.out.kept stay_str x7)
 replace HO3 := Lib.hid (HO3.out.kept stay_str x7)
 refine hK _ _ (HS2.out.kept HX7.out).s7 ?_
 clear hK K x7 o4
 refine Text.eff rfl rfl (fun K hK => ?_)
 go_simp
 refine (clone_pc _ _ _ _ _ (H.out.held.kept stay_pc (below_thenB HB2.out HB2.out.size HX7.out))).mono ?_
 rintro e w8 ⟨b5, d5, rfl, o5, x8⟩
 have HX8 : Hid (Below w2.heap.size w2 w8) := Lib.hid (below_thenB HX7.out HX7.out.size x8)
 have HO5 : Hid (OT rPc 2 39 w2.heap.size w8 (.slice b5 n5 d5) x.held) := Lib.hid (OT.of o5 stay_pc x8 HX7.out.size)
 replace HO0 := Lib.hid (HO0.out.kept stay_spT x8)
 replace HO1 := Lib.hid (HO1.out.kept stay_str x8)
 replace HO2 := Lib.hid (HO2.out.kept stay_str x8)
 replace HO3 := Lib.hid (HO3.out.kept stay_str x8)
 replace HO4 := Lib.hid (HO4.out.kept stay_str x8)
 refine hK _ _ (HS2.out.kept HX8.out).s7 ?_
 clear hK K x8 o5
 refine Text.heldk rfl rfl (fun K hK => ?_)
 refine ⟨_, fun w' hw' => exec_build (v := .agg (siC b0 n0 d0 b1 n1 d1 b2 n2 d2 b3 n3 d3 b4 n4 d4 b5 n5 d5 x.pct).toArray) rfl (ps := #[(0, .slice b0 n0 d0), (1, .slice b1 n1 d1), (2, .slice b2 n2 d2), (3, .slice b3 n3 d3), (4, .slice b4 n4 d4), (5, .slice b5 n5 d5), (6, .int .i64 x.pct)]) (by rw [List.map_toArray]; rfl) (bldSi () _ _ _ _ _ _ _ _ _ _ _ _ _ _ _ _ _ _ _ _), ?_⟩
 go_simp
 refine hK _ ?_
 clear hK K
 refine Text.last rfl rfl (fun K hK => ?_)
 refine wp_storev 33 (.tmp 2) (.tmp 23) rfl 7 (by kernel_rfl) w1.heap.size 0 _ siZ (siC b0 n0 d0 b1 n1 d1 b2 n2 d2 b3 n3 d3 b4 n4 d4 b5 n5 d5 x.pct) rfl rfl (HR2.out.kept HX8.out) rfl (one_si _ _ _ _ _ _ _ _ _ _ _ _ _ _ _ _ _ _ _) (by decide) ?_
 intro w9 y1 y2 y3
 have HT9 : Hid (BL w9 w1.heap.size 33 (siC b0 n0 d0 b1 n1 d1 b2 n2 d2 b3 n3 d3 b4 n4 d4 b5 n5 d5 x.pct)) := Lib.hid y1
 have HK9 := Lib.hid y2
 clear y1 y2 y3
 refine hK _ _ ?_
 clear hK K
 refine Text.done ?_
 go_wp2_with fail
 (try simp only [Exit.inBlock, Exit.then])
 have HB9 : Hid (Below w.heap.size w w9) := Lib.hid (((Kp.of_below (S := fun _ => False) (below_thenB HB2.out HB2.out.size HX8.out)).after HK9.out (fun i hi e => by have := HG.out; omega)).below (Nat.le_refl _) (fun _ h => h.elim))
 have hne : ∀ (b : Nat), w2.heap.size ≤ b → ¬ b = w1.heap.size := fun b h1 h2 => by have := HR2.out.lt; omega
 have hcl : ClO w.heap.size w9 b0 n0 d0 b1 n1 d1 b2 n2 d2 b3 n3 d3 b4 n4 d4 b5 n5 d5 x := by
  have hb := HB2.out.size
  exact ⟨(HO0.out.kp HK9.out (fun b e => hne b (HO0.out.own b e)) (fun _ _ h => h.kp HK9.out (fun i hi e => by subst e; exact ⟨_, _, HR2.out.kept HX8.out, by decide⟩))).base hb,
   (HO1.out.kp HK9.out (fun b e => hne b (HO1.out.own b e)) (fun _ _ h => h)).base hb, (HO2.out.kp HK9.out (fun b e => hne b (HO2.out.own b e)) (fun _ _ h => h)).base hb,
   (HO3.out.kp HK9.out (fun b e => hne b (HO3.out.own b e)) (fun _ _ h => h)).base hb, (HO4.out.kp HK9.out (fun b e => hne b (HO4.out.own b e)) (fun _ _ h => h)).base hb,
   (HO5.out.kp HK9.out (fun b e => hne b (HO5.out.own b e)) (fun _ _ h => h)).base hb⟩
 exact bodyPost_ret (results_at w9 Try.results51 (n := 7) (by kernel_rfl) (g := w1.heap.size) (o := 0) rfl (ms := siC b0 n0 d0 b1 n1 d1 b2 n2 d2 b3 n3 d3 b4 n4 d4 b5 n5 d5 x.pct) (BL.all HT9.out) rfl) rfl ⟨b0, n0, d0, b1, n1, d1, b2, n2, d2, b3, n3, d3, b4, n4, d4, b5, n5, d5, rfl, hcl, HB9.out⟩
end Go.Proofs.Ytboglaokdgnpaaa
/- Lists of a situation of the call's own: turned, read. -/
namespace Go.Proofs.Ytboglaokdgnpaaa
open Go Go.RowKit Gf Sha

section
variable {P : Program} (w : World) {o : Oper} {a : Act} {Q : Exit → Act → World → Prop} {K : Act → World → Prop}
theorem wp_store1 (t : TypeId) (x y : Operand) (hop : o.op = .store t x y) (hs : (sizeOf t).run P w = .ok 1 w) (g p : Nat) (te : TypeId) (l : List Value) (u : Value) (hx : a.eval x = .pointer (some ⟨g, p, none⟩)) (hy : a.eval y = u)
  (hb : BL w g te l) (hu : u.cells = #[u]) (h1 : u.oneCell' = true) (hp : p < l.length)
  (h : ∀ w', BL w' g te (l.set p u) → Kp (· = g) w w' → w'.heap.size = w.heap.size → K (a.put o.dst undef) w') : o.wp P a w K Q := by
 obtain ⟨w', hr, hb', hk, hz⟩ := run_storeCells (P := P) [u] (by simpa using h1) p 1 0 l w rfl hb (by simp; omega)
 have e : l.take (p + 0) ++ [u].drop 0 ++ l.drop (p + [u].length) = l.set p u := by
  rw [List.set_eq_take_append_cons_drop, if_pos hp]
  simp
 rw [e] at hb'
 rw [List.drop_zero] at hr
 unfold Oper.wp execOp
 simp only [hop, hx, hy]
 simp [Instr.storeAt, Instr.sureAddr, storeVar, Sem.run_bind, hs, hu, hr, Result.andThen]
 exact h w' hb' hk hz
end
theorem RW.src {P : Program} {w : World} {te tx e' : TypeId} {s n c : Nat} {A : Option Addr} {l : List Value} (h : RW w te s (.slice A n c) n l) (hk : P.underlying tx = some (.slice e')) (h1 : ∀ u ∈ l, u.oneCell' = true) : Src P s tx (.slice A n c) n l w :=
 ⟨.inl ⟨_, hk⟩, fun _ => rfl, h.firstCells, RW.firstCells h.drew, h.1, h1⟩
theorem OT.app {α : Type} {R : Rdg α} {s m n base : Nat} {te : TypeId} {w w' : World} {v v' : Value} {L M : List α} {css dss : List (List Value)} (hl : css.length = L.length) (h2 : ∀ cs ∈ css, cs.length = s) (h3 : ∀ k (h : k < L.length) (h' : k < css.length), R w' css[k] L[k]) (h5 : ∀ b, v.ownBlock = some b → base ≤ b) (hn : L.length = n)
  (kl : dss.length = M.length) (k2 : ∀ cs ∈ dss, cs.length = s) (k3 : ∀ k (h : k < M.length) (h' : k < dss.length), R w' dss[k] M[k]) (km : M.length = m) (hw : base ≤ w.heap.size) (ap : AppR w te s v n m css.flatten dss.flatten v' w') : OT R s te base w' v' (L ++ M) := by
 refine ⟨css ++ dss, by simp [hl, kl], fun cs hcs => (List.mem_append.1 hcs).elim (h2 cs) (k2 cs), fun k hk hk' => ?_, ?_, fun b hb => (ap.own b hb).elim (h5 b) (fun h => Nat.le_trans hw h)⟩
 ·
  by_cases hlt : k < L.length
  ·
   rw [List.getElem_append_left (by omega), List.getElem_append_left hlt]; exact h3 k hlt (by omega)
  ·
   rw [List.getElem_append_right (by omega), List.getElem_append_right (by omega)]
   simp only [hl]
   exact k3 _ (by rw [List.length_append] at hk; omega) _
 ·
  have := ap.row
  rw [List.flatten_append, List.length_append, hn, km]
  exact this
theorem css_one {α : Type} {R : Rdg α} {w : World} {L : List α} {css : List (List Value)} (hl : css.length = L.length) (h3 : ∀ k (h : k < L.length) (h' : k < css.length), R w css[k] L[k]) (hone : ∀ cs x, R w cs x → ∀ u ∈ cs, u.oneCell' = true) : ∀ u ∈ css.flatten, u.oneCell' = true := fun u hu => by
 obtain ⟨cs, hcs, hu⟩ := List.mem_flatten.1 hu
 obtain ⟨k, hk⟩ := List.mem_iff_getElem?.1 hcs
 obtain ⟨hk1, hk2⟩ := List.getElem?_eq_some_iff.1 hk
 have h9 := h3 k (by omega) hk1
 rw [hk2] at h9
 exact hone _ _ h9 u hu
theorem ones_spT {w : World} : ∀ cs x, rSpT w cs x → ∀ u ∈ cs, u.oneCell' = true := fun cs x h => ones_sp cs x h.1
/-- The lists fit. -/
structure Lims (x : Si) : Prop where
 sp : x.sp.length * 72 ≤ lim
 need : x.need.length * 16 ≤ lim
 cond : x.cond.length * 16 ≤ lim
 drop : x.drop.length * 16 ≤ lim
 carr : x.carr.length * 16 ≤ lim
 held : x.held.length * 24 ≤ lim
section
variable {w w' : World} {base : Nat} {b0 b1 b2 b3 b4 b5 : Option Addr} {k0 d0 k1 d1 k2 d2 k3 d3 k4 d4 k5 d5 : Nat} {x : Si}
theorem SiOk.lims {w : World} {a0 a1 a2 a3 a4 a5 : Option Addr} {n0 c0 n1 c1 n2 c2 n3 c3 n4 c4 n5 c5 : Nat} {x : Si} (h : SiOk w a0 n0 c0 a1 n1 c1 a2 n2 c2 a3 n3 c3 a4 n4 c4 a5 n5 c5 x) : Lims x :=
 ⟨by rw [h.sp.1]; exact h.sp.2.2.1, by rw [h.need.1]; exact h.need.2.2.1, by rw [h.cond.1]; exact h.cond.2.2.1, by rw [h.drop.1]; exact h.drop.2.2.1, by rw [h.carr.1]; exact h.carr.2.2.1, by rw [h.held.1]; exact h.held.2.2.1⟩
theorem OT.ls' {α : Type} {R : Rdg α} {s b : Nat} {te : TypeId} {A : Option Addr} {k c : Nat} {L : List α} (h : OT R s te base w (.slice A k c) L) (hl : L.length * b ≤ lim) : LS R s b w A k c L := by
 obtain ⟨A', c', e, l⟩ := h.ls hl
 cases e; exact l
theorem ClO.si (h : ClO base w b0 k0 d0 b1 k1 d1 b2 k2 d2 b3 k3 d3 b4 k4 d4 b5 k5 d5 x) (hl : Lims x) (hp : wfI x.pct) : SiOk w b0 k0 d0 b1 k1 d1 b2 k2 d2 b3 k3 d3 b4 k4 d4 b5 k5 d5 x :=
 ⟨(h.sp.ls' hl.sp).mono (fun _ _ h => h.1), h.need.ls' hl.need, h.cond.ls' hl.cond, h.drop.ls' hl.drop, h.carr.ls' hl.carr, h.held.ls' hl.held, hp⟩
theorem OT.row {α : Type} {R : Rdg α} {s : Nat} {te : TypeId} {v : Value} {L : List α} (h : OT R s te base w v L) : ∃ cs, RW w te s v L.length cs := let ⟨_, _, _, _, h4, _⟩ := h; ⟨_, h4⟩
theorem OT.ne_bl {α : Type} {R : Rdg α} {s g : Nat} {te t : TypeId} {v : Value} {L : List α} {l : List Value} (h : OT R s te base w v L) (hb : BL w g t l) (ht : t ≠ te) : ∀ b, v.ownBlock = some b → ¬ b = g := fun b e h9 => by
 obtain ⟨_, r⟩ := h.row
 exact r.ne_bl hb ht b e h9
theorem OT.ne_ot {α β : Type} {R : Rdg α} {R' : Rdg β} {s s' base' : Nat} {te te' : TypeId} {v v' : Value} {L : List α} {L' : List β} (h : OT R s te base w v L) (h' : OT R' s' te' base' w v' L') (ht : te ≠ te') : ∀ b, v.ownBlock = some b → ¬ v'.ownBlock = some b := by
 obtain ⟨_, r⟩ := h.row
 obtain ⟨_, r'⟩ := h'.row
 exact r.ne_rw r' ht
/-- A block with a situation turns: the lists stand. -/
theorem ClO.put {g : Nat} {l : List Value} (h : ClO base w b0 k0 d0 b1 k1 d1 b2 k2 d2 b3 k3 d3 b4 k4 d4 b5 k5 d5 x) (hk : Kp (· = g) w w') (hb : BL w g 33 l) : ClO base w' b0 k0 d0 b1 k1 d1 b2 k2 d2 b3 k3 d3 b4 k4 d4 b5 k5 d5 x :=
 ⟨h.sp.kp hk (h.sp.ne_bl hb (by decide)) (fun _ _ h => h.kp hk (fun i hi e => by subst e; exact ⟨_, _, hb, by decide⟩)), h.need.kp hk (h.need.ne_bl hb (by decide)) (fun _ _ h => h), h.cond.kp hk (h.cond.ne_bl hb (by decide)) (fun _ _ h => h), h.drop.kp hk (h.drop.ne_bl hb (by decide)) (fun _ _ h => h), h.carr.kp hk (h.carr.ne_bl hb (by decide)) (fun _ _ h => h), h.held.kp hk (h.held.ne_bl hb (by decide)) (fun _ _ h => h)⟩
theorem ClO.kept (h : ClO base w b0 k0 d0 b1 k1 d1 b2 k2 d2 b3 k3 d3 b4 k4 d4 b5 k5 d5 x) (hb : Below w.heap.size w w') : ClO base w' b0 k0 d0 b1 k1 d1 b2 k2 d2 b3 k3 d3 b4 k4 d4 b5 k5 d5 x :=
 ⟨h.sp.kept stay_spT hb, h.need.kept stay_str hb, h.cond.kept stay_str hb, h.drop.kept stay_str hb, h.carr.kept stay_str hb, h.held.kept stay_pc hb⟩
theorem ClO.setSp {b0' : Option Addr} {k0' d0' : Nat} {L : List Sp} (h : ClO base w b0 k0 d0 b1 k1 d1 b2 k2 d2 b3 k3 d3 b4 k4 d4 b5 k5 d5 x) (hk : Kp (fun b => (Value.slice b0 k0 d0).ownBlock = some b) w w') (hs : OT rSpT 6 61 base w' (.slice b0' k0' d0') L) : ClO base w' b0' k0' d0' b1 k1 d1 b2 k2 d2 b3 k3 d3 b4 k4 d4 b5 k5 d5 { x with sp := L } :=
 ⟨hs, h.need.kp hk (h.need.ne_ot h.sp (by decide)) (fun _ _ h => h), h.cond.kp hk (h.cond.ne_ot h.sp (by decide)) (fun _ _ h => h), h.drop.kp hk (h.drop.ne_ot h.sp (by decide)) (fun _ _ h => h), h.carr.kp hk (h.carr.ne_ot h.sp (by decide)) (fun _ _ h => h), h.held.kp hk (h.held.ne_ot h.sp (by decide)) (fun _ _ h => h)⟩
end
end Go.Proofs.Ytboglaokdgnpaaa
