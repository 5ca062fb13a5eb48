/- Append of a whole list; slices.Clone. -/
import Derived.Test.YtfcakjpljjnjnaaGreatDoorBpm
namespace Go.Proofs.YtfcakjpljjnjnaaGreatDoor
open Go Go.RowKit Gf Sha

section
variable {α : Type} {R : Rdg α} {s b n c m : Nat} {w w' : World} {A : Option Addr} {L : List α} {P : Program} {te : TypeId} {v : Value} {l : List Value}
/-- The cells of a list. -/
theorem LS.css (h : LS R s b w A n c L) (hlen : ∀ cs x, R w cs x → cs.length = s) : ∃ css : List (List Value), css.length = L.length ∧ (∀ cs ∈ css, cs.length = s) ∧ (∀ k (h : k < L.length) (h' : k < css.length), R w css[k] L[k]) ∧ ∀ g o, A = some ⟨g, o, none⟩ → At w g o css.flatten := by
 have key : ∀ k, k ≤ L.length → ∃ css : List (List Value), css.length = k ∧ (∀ cs ∈ css, cs.length = s) ∧ (∀ j (h : j < L.length) (h' : j < css.length), R w css[j] L[j]) ∧ ∀ g o, A = some ⟨g, o, none⟩ → At w g o css.flatten := by
  intro k
  induction k with
  | zero => intro _; exact ⟨[], rfl, (fun _ h => by cases h), (fun _ _ h => absurd h (by simp)), fun g o _ j v hj => by simp at hj⟩
  | succ k ih =>
   intro hk
   obtain ⟨css, h1, h2, h3, h4⟩ := ih (by omega)
   obtain ⟨g, o, cs, e, h5, h6⟩ := h.2.2.2 k (by omega)
   refine ⟨css ++ [cs], by simp [h1], fun c hc => ?_, fun j hj hj' => ?_, fun g' o' e' => ?_⟩
   ·
    rcases List.mem_append.1 hc with h | h
    ·
     exact h2 c h
    ·
     rw [List.mem_singleton.1 h]; exact hlen _ _ h6
   ·
    by_cases hlt : j < css.length
    ·
     rw [List.getElem_append_left hlt]; exact h3 j hj hlt
    ·
     have e9 : j = k := by simp at hj'; omega
     subst e9
     rw [List.getElem_append_right (by omega)]
     simp only [h1, Nat.sub_self, List.getElem_cons_zero]
     exact h6
   ·
    rw [e] at e'
    cases e'
    have hf := flatten_len h2
    have h7 := h4 g o e
    rw [List.flatten_append, List.flatten_cons, List.flatten_nil, List.append_nil]
    intro j u hj
    by_cases hlt : j < css.flatten.length
    ·
     rw [List.getElem?_append_left hlt] at hj; exact h7 j u hj
    ·
     rw [List.getElem?_append_right (by omega)] at hj
     have h8 := h5 (j - css.flatten.length) u hj
     rw [show o + j = o + k * s + (j - css.flatten.length) by rw [hf, h1] at hlt ⊢; omega]
     exact h8
 exact key _ (Nat.le_refl _)
theorem LS.src (h : LS R s b w A n c L) (hlen : ∀ cs x, R w cs x → cs.length = s) (hone : ∀ cs x, R w cs x → ∀ u ∈ cs, u.oneCell' = true) {tx e' : TypeId} (hk : P.underlying tx = some (.slice e')) :
  ∃ css : List (List Value), css.length = L.length ∧ (∀ cs ∈ css, cs.length = s) ∧ (∀ k (h : k < L.length) (h' : k < css.length), R w css[k] L[k]) ∧ ∀ w', Below w.heap.size w w' → Src P s tx (.slice A n c) n css.flatten w' := by
 obtain ⟨css, h1, h2, h3, h4⟩ := h.css hlen
 have hfl : css.flatten.length = n * s := by rw [flatten_len h2, h1, h.1]
 have h1c : ∀ u ∈ css.flatten, u.oneCell' = true := fun u hu => by
  obtain ⟨cs, hcs, hu⟩ := List.mem_flatten.1 hu
  obtain ⟨k, hk⟩ := List.mem_iff_getElem?.1 hcs
  obtain ⟨hk1, hk2⟩ := List.getElem?_eq_some_iff.1 hk
  have h9 := h3 k (by omega) hk1
  rw [hk2] at h9
  exact hone _ _ h9 u hu
 refine ⟨css, h1, h2, h3, fun w' hbel => ?_⟩
 cases A with
 | none =>
  have h0 : n = 0 := by
   rcases Nat.eq_zero_or_pos n with h9 | h9
   ·
    exact h9
   ·
    obtain ⟨g, o, cs, e, _⟩ := h.2.2.2 0 (by rw [h.1]; exact h9)
    cases e
  subst h0
  have : css.flatten = [] := List.eq_nil_of_length_eq_zero (by omega)
  rw [this]
  exact Src.ofNil w' hk c
 | some a =>
  refine Src.ofSlice w' hk a n c _ hfl (fun j u hj => ?_) h1c
  have hn : 0 < n := by
   rcases Nat.eq_zero_or_pos n with h9 | h9
   ·
    subst h9
    have : css.flatten = [] := List.eq_nil_of_length_eq_zero (by omega)
    rw [this] at hj; simp at hj
   ·
    exact h9
  obtain ⟨g, o, cs, e, _⟩ := h.2.2.2 0 (by rw [h.1]; exact hn)
  cases e
  rw [Addr.add_lit]
  exact (h4 g o rfl).kept hbel j u hj
theorem run_appS {t tx rt : TypeId} {i : TypeInfo} {z : Value} (ht : P.underlying t = some (.slice te)) (hi : P.info? te = some i) (hz : i.zero = some z) (hs : i.size = s) (hzs : z.cells.size = s) (h : RW w te s v n l) {x : Value} {xs : List Value}
  (hx : Src P s tx x m xs w) (hb : (n + m) * i.bytes ≤ 140737488355328) (hn : n + m ≤ 140737488355328) :
  ∃ v' w', (Builtin.append_ #[t, tx] rt #[v, x]).run P w = .ok v' w' ∧ AppR w te s v n m l xs v' w' := by
 rcases Nat.eq_zero_or_pos m with h0 | hm
 ·
  subst h0
  have hxs : xs = [] := List.eq_nil_of_length_eq_zero (by have := hx.newsLen; omega)
  subst hxs
  have hap : AppR w te s v n 0 l [] v w := ⟨by rw [Nat.add_zero, List.append_nil]; exact h, Kp.of_below (Below.refl _ _), fun b hb => .inl hb⟩
  rcases h.2 with ⟨rfl, rfl⟩ | ⟨g, o, c, cs, rfl, hbl, h1, h2, h3, h4⟩
  ·
   refine ⟨_, w, ?_, hap⟩
   rcases hx.kind with ⟨e', hk⟩ | hk <;> simp [Builtin.append_, run_underlying ht, run_underlying hk, sizeOf, typeInfo, hi, hs, hx.len, hx.cells, Result.andThen]
  ·
   refine ⟨_, w, ?_, hap⟩
   have hx' : Src P i.size tx x 0 [] w := by rw [hs]; exact hx
   have h9 := run_append_room_src (P := P) w t tx rt te i ht hi g o n c x 0 [] hx' (by omega) (fun j hj => absurd hj (by simp)) (fun j hj => absurd hj (by simp))
   exact h9
 ·
  exact run_appRW ht hi hz hs hzs h hx hm hb hn
end
section
variable {P : Program} (w : World) {ops : Array Oper} {rest : List Oper} {o : Oper} {a : Act} {Q : Exit → Act → World → Prop} {K' : Act → World → Prop}
/-- append(r, x...). -/
theorem wp_appX (sl x : Operand) (t te : TypeId) (s : Nat) (i : TypeInfo) (z : Value) (hop : o.op = .call { callee := .builtin .append, args := #[sl, x], argTypes := #[t, t] })
  (ht : P.underlying t = some (.slice te)) (hi : P.info? te = some i) (hz : i.zero = some z) (hs : i.size = s) (hzs : z.cells.size = s) (v : Value) (n : Nat) (l : List Value) (hv : a.eval sl = v) (h : RW w te s v n l)
  (xv : Value) (m : Nat) (xs : List Value) (hx : a.eval x = xv) (hsrc : Src P s t xv m xs w) (hb : (n + m) * i.bytes ≤ 140737488355328) (hn : n + m ≤ 140737488355328)
  (hK : ∀ v' w', AppR w te s v n m l xs v' w' → K' (a.put o.dst v') w') : o.wp P a w K' Q := by
 obtain ⟨v', w', hr, h2⟩ := run_appS (rt := o.type) ht hi hz hs hzs h hsrc hb hn
 unfold Oper.wp execOp
 simp only [hop, resolve, invoke, builtin, Sem.run_bind, Sem.run_pure, Result.andThen_ok, List.map_toArray, List.map_cons, List.map_nil, hv, hx, hr]
 exact hK _ _ h2
theorem wpList_appX (hg : o.guard = none) (sl x : Operand) (t te : TypeId) (s : Nat) (i : TypeInfo) (z : Value) (hop : o.op = .call { callee := .builtin .append, args := #[sl, x], argTypes := #[t, t] })
  (ht : P.underlying t = some (.slice te)) (hi : P.info? te = some i) (hz : i.zero = some z) (hs : i.size = s) (hzs : z.cells.size = s) (v : Value) (n : Nat) (l : List Value) (hv : a.eval sl = v) (h : RW w te s v n l)
  (xv : Value) (m : Nat) (xs : List Value) (hx : a.eval x = xv) (hsrc : Src P s t xv m xs w) (hb : (n + m) * i.bytes ≤ 140737488355328) (hn : n + m ≤ 140737488355328)
  (hK : ∀ v' w', AppR w te s v n m l xs v' w' → wpList P ops Q rest (a.put o.dst v') w') : wpList P ops Q (o :: rest) a w :=
 wpList_plain hg fun _ hK' => wp_appX w sl x t te s i z hop ht hi hz hs hzs v n l hv h xv m xs hx hsrc hb hn (fun v' w' h2 => hK' _ _ (hK v' w' h2))
end
/-- A list with another one behind it. -/
theorem OL.app {α : Type} {R : Rdg α} {s m : Nat} {te : TypeId} {w0 w w' : World} {v v' : Value} {L M : List α} {n : Nat} {css : List (List Value)} (hl : css.length = L.length) (h2 : ∀ cs ∈ css, cs.length = s) (h3 : ∀ k (h : k < L.length) (h' : k < css.length), R w0 css[k] L[k]) (h5 : ∀ b, v.ownBlock = some b → w0.heap.size ≤ b) (hn : L.length = n)
  {dss : List (List Value)} (kl : dss.length = M.length) (k2 : ∀ cs ∈ dss, cs.length = s) (k3 : ∀ k (h : k < M.length) (h' : k < dss.length), R w0 dss[k] M[k]) (km : M.length = m) (hw : w0.heap.size ≤ w.heap.size) (ap : AppR w te s v n m css.flatten dss.flatten v' w') : OL R s te w0 w' v' (L ++ M) := by
 refine ⟨css ++ dss, by simp [hl, kl], fun cs hcs => (List.mem_append.1 hcs).elim (h2 cs) (k2 cs), fun k hk hk' => ?_, ?_, fun b hb => (ap.own b hb).elim (h5 b) (fun h => Nat.le_trans hw h)⟩
 ·
  by_cases hlt : k < L.length
  ·
   rw [List.getElem_append_left (by omega), List.getElem_append_left hlt]; exact h3 k hlt (by omega)
  ·
   rw [List.getElem_append_right (by omega), List.getElem_append_right (by omega)]
   simp only [hl]
   exact k3 _ (by rw [List.length_append] at hk; omega) _
 ·
  have := ap.row
  rw [List.flatten_append, List.length_append, hn, km]
  exact this
theorem len_rf {w : World} : ∀ cs x, rRf w cs x → cs.length = 3 := fun _ _ h => by rw [h.1]; rfl
theorem ones_rf {w : World} : ∀ cs x, rRf w cs x → ∀ u ∈ cs, u.oneCell' = true := fun _ _ h => by rw [h.1]; exact one_val _ rfl
theorem LS.none_len {α : Type} {R : Rdg α} {s b n c : Nat} {w : World} {L : List α} (h : LS R s b w none n c L) : n = 0 := by
 rcases Nat.eq_zero_or_pos n with h9 | h9
 ·
  exact h9
 ·
  obtain ⟨g, o, cs, e, _⟩ := h.2.2.2 0 (by rw [h.1]; exact h9)
  cases e
theorem eqNil_rf (a : Addr) (n c : Nat) (w : World) : (binOp .eql 24 (.slice (some a) n c) (.slice none 0 0)).run Tryz.prog w = .ok (.bool false) w := Lib.run_eql_slice_nil w _ _ (some a) n c 0 0 Tryz.underlying24
theorem eqNil0_rf (n c : Nat) (w : World) : (binOp .eql 24 (.slice none n c) (.slice none 0 0)).run Tryz.prog w = .ok (.bool true) w := Lib.run_eql_slice_nil w _ _ none n c 0 0 Tryz.underlying24
theorem bsl0_rf (w : World) : (Instr.buildSlice 24 0 #[]).run Tryz.prog w = .ok (.slice (some ⟨w.heap.size, 0, none⟩) 0 0) (w.alloc (.cells ([] : List Value).toArray 44)) := by kernel_rfl
set_option maxRecDepth 100000 in
set_option maxHeartbeats 1000000 in
theorem clone_rf (A : Option Addr) (n c : Nat) (L : List Rf) (w : World) (h : LS rRf 3 32 w A n c L) :
  Calls Tryz.prog 35 #[.slice A n c] w fun e w' => ∃ A' c', e = .returned (.slice A' n c') ∧ OL rRf 3 44 w w' (.slice A' n c') L ∧ Below w.heap.size w w' := by
 have hn := h.len_le
 obtain ⟨css, h1, h2, h3, h4⟩ := h.src (P := Tryz.prog) len_rf ones_rf Tryz.underlying24
 have HL := Lib.hid h.1
 have HC := Lib.hid h1
 have H2 := Lib.hid h2
 have H3 := Lib.hid h3
 have HS := Lib.hid h4
 have HN0 : Hid (A = none → n = 0) := Lib.hid (fun e => by subst e; exact h.none_len)
 clear h h1 h2 h3 h4
 cases A with
 | none =>
  have hen := eqNil0_rf n c
  obtain rfl := HN0.out rfl
  go_enter Tryz.func35, Tryz.ntmps35
  go_wp2_with fail
  go_ret
  have hL : L = [] := List.eq_nil_of_length_eq_zero HL.out
  rw [hL]
  exact ⟨none, 0, rfl, OL.nil _ _ _ _ _, Below.refl _ _⟩
 | some a =>
  have hen := eqNil_rf a n c
  go_enter Tryz.func35, Tryz.ntmps35
  go_wp2_with (first
   | ((with_reducible show OpW 5); refine wpList_bslice _ rfl 24 44 0 _ rfl #[] (by rw [List.map_toArray]; rfl) [] (bsl0_rf _) ?_; intro w1 a1 a2 a3; have HG1 := Lib.hid a1; have HB1 := Lib.hid a2; clear a1 a2 a3)
   | ((with_reducible show OpW 7); obtain ⟨iS, i1, i2, i3, i4⟩ := info_some infoRf; refine wpList_appX _ rfl (.tmp 5) (.tmp 6) 24 44 3 iS _ rfl Tryz.underlying24 i1 i2 i3 rfl _ 0 [] rfl (RW.of_blk (n := 0) HG1.out (by simp) (by decide)) _ n _ rfl (HS.out _ HB1.out) (by rw [i4]; omega) (by omega) ?_; intro v' w2 ap; have HAP := Lib.hid ap; clear ap i1 i2 i3 i4))
  obtain ⟨A', c', e', _⟩ := HAP.out.row.form
  subst e'
  go_ret
  have ho : OL rRf 3 44 w w2 (.slice A' (0 + n) c') ([] ++ L) := OL.app (css := []) rfl (fun _ h => by cases h) (fun _ h => absurd h (by simp)) (fun b hb => by cases hb; exact Nat.le_refl _) rfl HC.out H2.out H3.out HL.out HB1.out.size HAP.out
  rw [Nat.zero_add, List.nil_append] at ho
  refine ⟨A', c', by rw [Nat.zero_add]; rfl, ho, ((Kp.of_below (S := fun _ => False) HB1.out).after HAP.out.kp (fun i hi e => by have e' : w.heap.size = i := Option.some.inj e; omega)).below (Nat.le_refl _) (fun _ h => h.elim)⟩
end Go.Proofs.YtfcakjpljjnjnaaGreatDoor
