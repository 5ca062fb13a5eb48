/- Several texts in one: Ta, Tb. -/
import Derived.Test.YtboglaokdgnpaaaA20
/- A step that is built by two appends; the situation's rewrite. -/
namespace Go.Proofs.Ytboglaokdgnpaaa
open Go Go.RowKit Gf Sha

section
variable {w w' w1 : World} {te t : TypeId} {s n g : Nat} {v v' : Value} {l cs xs : List Value}
theorem RW.ne_bl (h : RW w te s v n l) (hb : BL w g t cs) (ht : t ≠ te) : ∀ b, v.ownBlock = some b → b ≠ g := fun b hv e => by
 subst e
 obtain ⟨cs', h1⟩ := h.ty hv
 exact ht (hb.ty h1)
theorem AppR.bl {m : Nat} (ap : AppR w te s v n m l xs v' w') (h : RW w te s v n l) (hb : BL w g t cs) (ht : t ≠ te) : BL w' g t cs :=
 ap.kp.bl hb (fun e => h.ne_bl hb ht g e rfl)
theorem OL.kp {α : Type} {R : Rdg α} {w0 : World} {L : List α} {S : Nat → Prop} (h : OL R s te w0 w v L) (hk : Kp S w w') (hn : ∀ b, v.ownBlock = some b → ¬ S b) : OL R s te w0 w' v L :=
 let ⟨css, h1, h2, h3, h4, h5⟩ := h; ⟨css, h1, h2, h3, h4.kp hk hn, h5⟩
theorem OL.len {α : Type} {R : Rdg α} {w0 : World} {L : List α} {A : Option Addr} {k C : Nat} (h : OL R s te w0 w (.slice A k C) L) : L.length = k := by
 obtain ⟨css, _, _, _, h4, _⟩ := h
 obtain ⟨A', c', e, _⟩ := h4.form
 cases e; rfl
end
theorem szOne (P : Program) (t : TypeId) (hz : (P.info? t).map (·.size) = some 1) (w : World) : (sizeOf t).run P w = .ok 1 w := by
 cases hi : P.info? t with
 | none => simp [hi] at hz
 | some i =>
  have hz' : i.size = 1 := by simpa [hi] using hz
  simp [sizeOf, typeInfo, hi, hz']
theorem rfSz (w : World) : (sizeOf 40).run Try.prog w = .ok 1 w := szOne _ _ (by kernel_rfl) w
abbrev sbC (kd : Int) (A1 : Option Addr) (k1 C1 : Nat) (A2 : Option Addr) (k2 C2 : Nat) : List Value := [.int .i64 kd, .slice A1 k1 C1, .string (strB []), .int .i64 0, .slice A2 k2 C2]
abbrev stpZ : List Value := sbC 0 none 0 0 none 0 0
theorem stpZero : (Try.prog.info? 44).map (·.zero) = some (some (.agg stpZ.toArray)) := by kernel_rfl
/-- A step under construction in block gs. -/
structure SB (base w : World) (gs : Nat) (kd : Int) (A1 : Option Addr) (k1 C1 : Nat) (A2 : Option Addr) (k2 C2 : Nat) (I : List (List UInt8)) (R : List Rf) : Prop where
 blk : BL w gs 44 (sbC kd A1 k1 C1 A2 k2 C2)
 s : OL rStr 1 9 base w (.slice A1 k1 C1) I
 r : OL rRf 3 73 base w (.slice A2 k2 C2) R
section
variable {base w w' w9 : World} {gs k1 C1 k2 C2 : Nat} {kd : Int} {A1 A2 : Option Addr} {I : List (List UInt8)} {R : List Rf}
theorem SB.kept (h : SB base w gs kd A1 k1 C1 A2 k2 C2 I R) (hb : Below w.heap.size w w') : SB base w' gs kd A1 k1 C1 A2 k2 C2 I R := ⟨h.blk.kept hb, h.s.kept hb, h.r.kept hb⟩
/-- A ref pushed. -/
theorem SB.pushR (h : SB base w gs kd A1 k1 C1 A2 k2 C2 I R) (hw : base.heap.size ≤ w.heap.size) {css : List (List Value)} (hl : css.length = R.length) (h2 : ∀ cs ∈ css, cs.length = 3) (h3 : ∀ k (h : k < R.length) (h' : k < css.length), rRf base css[k] R[k]) (h5 : ∀ b, (Value.slice A2 k2 C2).ownBlock = some b → base.heap.size ≤ b)
  (hrw : RW w 73 3 (.slice A2 k2 C2) k2 css.flatten) {r : Rf} (hr : okRf r) {A' : Option Addr} {C' : Nat} (ap : AppR w 73 3 (.slice A2 k2 C2) k2 1 css.flatten (rfL r) (.slice A' (k2 + 1) C') w9) (hb : BL w' gs 44 (sbC kd A1 k1 C1 A' (k2 + 1) C')) (hk : Kp (· = gs) w9 w') :
  SB base w' gs kd A1 k1 C1 A' (k2 + 1) C' I (R ++ [r]) := by
 have hg9 : BL w9 gs 44 _ := ap.bl hrw h.blk (by decide)
 have hs : ∀ b, (Value.slice A1 k1 C1).ownBlock = some b → ¬ (Value.slice A2 k2 C2).ownBlock = some b := fun b h1 h2 => by
  obtain ⟨_, h4⟩ := h.s.row
  obtain ⟨cs', h5⟩ := h4.ty h1
  exact hrw.ne_bl h5 (by decide) b h2 rfl
 have hs9 : OL rStr 1 9 base w9 (.slice A1 k1 C1) I := h.s.kp ap.kp hs
 have hr9 : OL rRf 3 73 base w9 (.slice A' (k2 + 1) C') (R ++ [r]) := OL.push hl h2 h3 h5 h.r.len rfl ⟨rfl, hr⟩ hw ap
 obtain ⟨_, r1⟩ := hs9.row
 obtain ⟨_, r2⟩ := hr9.row
 exact ⟨hb, hs9.kp hk (fun b hb' e => r1.ne_bl hg9 (by decide) b hb' e), hr9.kp hk (fun b hb' e => r2.ne_bl hg9 (by decide) b hb' e)⟩
/-- A name pushed. -/
theorem SB.pushS (h : SB base w gs kd A1 k1 C1 A2 k2 C2 I R) (hw : base.heap.size ≤ w.heap.size) {css : List (List Value)} (hl : css.length = I.length) (h2 : ∀ cs ∈ css, cs.length = 1) (h3 : ∀ k (h : k < I.length) (h' : k < css.length), rStr base css[k] I[k]) (h5 : ∀ b, (Value.slice A1 k1 C1).ownBlock = some b → base.heap.size ≤ b)
  (hrw : RW w 9 1 (.slice A1 k1 C1) k1 css.flatten) {r : List UInt8} (hr : r.length ≤ reachBytes) {A' : Option Addr} {C' : Nat} (ap : AppR w 9 1 (.slice A1 k1 C1) k1 1 css.flatten [.string (strB r)] (.slice A' (k1 + 1) C') w9) (hb : BL w' gs 44 (sbC kd A' (k1 + 1) C' A2 k2 C2)) (hk : Kp (· = gs) w9 w') :
  SB base w' gs kd A' (k1 + 1) C' A2 k2 C2 (I ++ [r]) R := by
 have hg9 : BL w9 gs 44 _ := ap.bl hrw h.blk (by decide)
 have hs : ∀ b, (Value.slice A2 k2 C2).ownBlock = some b → ¬ (Value.slice A1 k1 C1).ownBlock = some b := fun b h1 h2 => by
  obtain ⟨_, h4⟩ := h.r.row
  obtain ⟨cs', h5⟩ := h4.ty h1
  exact hrw.ne_bl h5 (by decide) b h2 rfl
 have hs9 : OL rRf 3 73 base w9 (.slice A2 k2 C2) R := h.r.kp ap.kp hs
 have hr9 : OL rStr 1 9 base w9 (.slice A' (k1 + 1) C') (I ++ [r]) := OL.push hl h2 h3 h5 h.s.len rfl ⟨rfl, hr⟩ hw ap
 obtain ⟨_, r1⟩ := hs9.row
 obtain ⟨_, r2⟩ := hr9.row
 exact ⟨hb, hr9.kp hk (fun b hb' e => r2.ne_bl hg9 (by decide) b hb' e), hs9.kp hk (fun b hb' e => r1.ne_bl hg9 (by decide) b hb' e)⟩
/-- The step is built: it reads. -/
theorem SB.stp (h : SB base w gs kd A1 k1 C1 A2 k2 C2 I R) (hb : Below base.heap.size base w) (h1 : I.length * 16 ≤ lim) (h2 : R.length * 32 ≤ lim) (hk : wfI kd) : rStp w (sbC kd A1 k1 C1 A2 k2 C2) ⟨kd, I, ([], 0), R⟩ := by
 obtain ⟨A, c, e, l1⟩ := h.s.ls (b := 16) stay_str hb h1
 obtain ⟨A', c', e', l2⟩ := h.r.ls (b := 32) stay_rf hb h2
 cases e
 cases e'
 exact ⟨A1, _, C1, A2, _, C2, rfl, l1, l2, hk, Nat.zero_le _, rfl⟩
end
/-- A step whose lists lie in blocks of other types than steps. -/
def rStpT : Rdg Stp := fun w cs x => rStp w cs x ∧ ∀ (A : Option Addr) (n c : Nat), Value.slice A n c ∈ cs → ∀ a, A = some a → ∃ t l, BL w a.block t l ∧ t ≠ 44
theorem LS.kpn {α : Type} {R : Rdg α} {s b n c : Nat} {w w' : World} {A : Option Addr} {L : List α} {S : Nat → Prop} (h : LS R s b w A n c L) (hR : ∀ cs x, R w cs x → R w' cs x) (hk : Kp S w w') (hn : ∀ a, A = some a → ¬ S a.block) : LS R s b w' A n c L :=
 ⟨h.1, h.2.1, h.2.2.1, fun k hk' => let ⟨g, o, cs, e, h1, h2⟩ := h.2.2.2 k hk'; ⟨g, o, cs, e, fun j v hj => hk.cell (h1 j v hj) (by have := hn _ e; exact this), hR _ _ h2⟩⟩
theorem rStpT.kp {w w' : World} {cs : List Value} {x : Stp} (h : rStpT w cs x) {S : Nat → Prop} (hk : Kp S w w') (hs : ∀ i, i < w.heap.size → S i → ∃ l, BL w i 44 l) : rStpT w' cs x := by
 obtain ⟨⟨A0, n0, c0, A1, n1, c1, rfl, h0, h1, r⟩, h2⟩ := h
 have ns : ∀ (A : Option Addr) (n c : Nat), Value.slice A n c ∈ [Value.int .i64 x.kind, .slice A0 n0 c0, .string (strB x.pc.1), .int .i64 x.pc.2, .slice A1 n1 c1] → ∀ a, A = some a → ¬ S a.block := fun A n c hm a ha hS => by
  obtain ⟨t, l, hb, ht⟩ := h2 A n c hm a ha
  obtain ⟨l', hb'⟩ := hs _ hb.lt hS
  exact ht (hb.ty hb')
 refine ⟨⟨A0, n0, c0, A1, n1, c1, rfl, h0.kpn (fun _ _ h => h) hk (ns A0 n0 c0 (by simp)), h1.kpn (fun _ _ h => h) hk (ns A1 n1 c1 (by simp)), r⟩, fun A n c hm a ha => ?_⟩
 obtain ⟨t, l, hb, ht⟩ := h2 A n c hm a ha
 exact ⟨t, l, hk.bl hb (ns A n c hm a ha), ht⟩
theorem rStpT.kept {w w' : World} {cs : List Value} {x : Stp} (h : rStpT w cs x) (hb : Below w.heap.size w w') : rStpT w' cs x := h.kp (S := fun _ => False) (Kp.of_below hb) (fun _ _ h => h.elim)
theorem RW.tyb {w : World} {te : TypeId} {s n : Nat} {A : Option Addr} {k c : Nat} {l : List Value} (h : RW w te s (.slice A k c) n l) {a : Addr} (ha : A = some a) : ∃ cs, BL w a.block te cs := by
 rcases h.2 with ⟨e, _⟩ | ⟨g, o, c', cs, e, hb', r⟩
 ·
  cases e; cases ha
 ·
  cases e; cases ha; exact ⟨cs, hb'⟩
theorem SB.stpT {base w : World} {gs k1 C1 k2 C2 : Nat} {kd : Int} {A1 A2 : Option Addr} {I : List (List UInt8)} {R : List Rf} (h : SB base w gs kd A1 k1 C1 A2 k2 C2 I R) (hb : Below base.heap.size base w) (h1 : I.length * 16 ≤ lim) (h2 : R.length * 32 ≤ lim) (hk : wfI kd) : rStpT w (sbC kd A1 k1 C1 A2 k2 C2) ⟨kd, I, ([], 0), R⟩ := by
 refine ⟨h.stp hb h1 h2 hk, fun A n c hm a ha => ?_⟩
 obtain ⟨_, r1⟩ := h.s.row
 obtain ⟨_, r2⟩ := h.r.row
 simp only [List.mem_cons, List.not_mem_nil, or_false, Value.slice.injEq, reduceCtorEq, false_or] at hm
 rcases hm with ⟨rfl, rfl, rfl⟩ | ⟨rfl, rfl, rfl⟩
 ·
  obtain ⟨cs, hb⟩ := r1.tyb ha
  exact ⟨_, _, hb, by decide⟩
 ·
  obtain ⟨cs, hb⟩ := r2.tyb ha
  exact ⟨_, _, hb, by decide⟩

/-- The refs of a stripe that only it has, of those that are needed. -/
def aloneT (st : St) (s : Sp) : List Rf := s.refs.filter fun r => st.need r.1 && decide (st.nam r.1 = 1)
def rwRefs (x : Si) (l : List Sp) : List Rf := (l.filter fun s => sparseB x s).flatMap (aloneT (st0 x))
def rwIds (x : Si) (l : List Sp) : List (List UInt8) := (l.filter fun s => sparseB x s && !(aloneT (st0 x) s).isEmpty).map (·.id)
theorem rwRefs_step (x : Si) (l : List Sp) (s : Sp) : rwRefs x (l ++ [s]) = rwRefs x l ++ (if sparseB x s then aloneT (st0 x) s else []) := by
 unfold rwRefs
 rw [List.filter_append, List.flatMap_append]
 by_cases h : sparseB x s = true <;> simp [h]
theorem rwIds_step (x : Si) (l : List Sp) (s : Sp) : rwIds x (l ++ [s]) = rwIds x l ++ (if sparseB x s && !(aloneT (st0 x) s).isEmpty then [s.id] else []) := by
 unfold rwIds
 rw [List.filter_append, List.map_append]
 cases h : (sparseB x s && !(aloneT (st0 x) s).isEmpty) <;> simp [h]
theorem rwIds_len (x : Si) (l : List Sp) : (rwIds x l).length ≤ l.length := by
 rw [rwIds, List.length_map]; exact List.length_filter_le _ _
theorem rwRefs_len (x : Si) : ∀ (l : List Sp), (∀ s ∈ l, s.refs.length ≤ 8) → (rwRefs x l).length ≤ 8 * l.length
 | [], _ => by simp [rwRefs]
 | s :: l, h => by
  have h1 := rwRefs_len x l (fun t ht => h t (by simp [ht]))
  have h2 := h s (by simp)
  have h3 : (aloneT (st0 x) s).length ≤ s.refs.length := List.length_filter_le _ _
  have e : rwRefs x (s :: l) = (if sparseB x s then aloneT (st0 x) s else []) ++ rwRefs x l := by
   unfold rwRefs
   by_cases hl : sparseB x s = true <;> simp [hl]
  rw [e, List.length_append, List.length_cons]
  split
  ·
   omega
  ·
   simp; omega
def rwStp (x : Si) : Stp := ⟨1, rwIds x x.sp, ([], 0), rwRefs x x.sp⟩
end Go.Proofs.Ytboglaokdgnpaaa
/- The situation's rewrite. -/
namespace Go.Proofs.Ytboglaokdgnpaaa
open Go Go.RowKit Gf Sha

theorem BL.ne {w : World} {g g' : Nat} {t t' : TypeId} {l l' : List Value} (h : BL w g t l) (h' : BL w g' t' l') (ht : t ≠ t') : g ≠ g' := fun e => by
 subst e
 exact ht (h.ty h')
set_option maxRecDepth 100000 in
set_option maxHeartbeats 4000000 in
theorem rewrite_any (w : World) (b : Nat) (m0 m1 m2 m3 m4 m5 m6 m7 : Nat) (a0 : Option Addr) (n0 c0 : Nat) (a1 : Option Addr) (n1 c1 : Nat) (a2 : Option Addr) (n2 c2 : Nat) (a3 : Option Addr) (n3 c3 : Nat) (a4 : Option Addr) (n4 c4 : Nat) (a5 : Option Addr) (n5 c5 : Nat) (x : Si) (h : StM w b m0 m1 m2 m3 m4 m5 m6 m7 a0 n0 c0 a1 n1 c1 a2 n2 c2 a3 n3 c3 a4 n4 c4 a5 n5 c5 x.pct (st0 x)) (hq : SiOk w a0 n0 c0 a1 n1 c1 a2 n2 c2 a3 n3 c3 a4 n4 c4 a5 n5 c5 x) (hv : siB x = true) (hbig : x.sp.length ≤ 1000) :
  Calls Try.prog 39 #[.pointer (some ⟨b, 0, none⟩)] w fun e w' => ∃ cs, e = .returned (.agg cs.toArray) ∧ rStpT w' cs (rwStp x) ∧ Below w.heap.size w w' := by
 have hn := hq.sp.len_le
 have H := Lib.hid hq
 have HL := Lib.hid hq.sp.1
 have HBG := Lib.hid hbig
 have HST := Lib.hid h
 have HPC := Lib.hid (siB_pct hv)
 have HLN : Hid (∀ k, (rwRefs x (x.sp.take k)).length ≤ 8000 ∧ (rwIds x (x.sp.take k)).length ≤ 1000) := Lib.hid (fun k => by
  have h1 := rwRefs_len x (x.sp.take k) (fun s hs => by
   obtain ⟨j, hj⟩ := List.mem_iff_getElem?.1 (List.mem_of_mem_take hs)
   exact (spB_refs (okB_at (siB_sp hv) hj)).1)
  have h2 := rwIds_len x (x.sp.take k)
  have h3 : (x.sp.take k).length ≤ x.sp.length := by rw [List.length_take]; omega
  omega)
 clear h hq hbig
 go_enter Try.func39, Try.ntmps39
 go_wp2_with (first
  | ((with_reducible show OpW 2); refine wpList_alloc _ rfl 44 rfl stpZ stpZero ?_; intro w1 a1 a2 a3; have HS1 := Lib.hid a1; have HB1 := Lib.hid a2; clear a1 a2 a3)
  | ((with_reducible show OpN); refine wpList_store1 _ rfl 3 (.tmp 10) (.const (.int .i64 1)) rfl (intSz _) w.heap.size 0 _ _ (.int .i64 1) rfl rfl HS1.out rfl rfl (by simp) ?_; intro w2 a1 a2 a3; have HS2 := Lib.hid a1; have HK2 := Lib.hid a2; have q0 := (HST.out.blk.kept (((Kp.of_below (S := fun _ => False) HB1.out).after a2 (fun i hi e => by omega)).below (Nat.le_refl _) (fun _ h => h.elim))).get (j := 0) rfl; clear a1 a2 a3))
 clear q0
 have HB2 : Hid (Below w.heap.size w w2) := Lib.hid (((Kp.of_below (S := fun _ => False) HB1.out).after HK2.out (fun i hi e => by omega)).below (Nat.le_refl _) (fun _ h => h.elim))
 go_loopw [17] (fun iv wr => ∃ k : Nat, k ≤ n0 ∧ iv = .int .i64 (k : Int) ∧ Hid (∃ A1 k1 C1 A2 k2 C2, SB w wr w.heap.size 1 A1 k1 C1 A2 k2 C2 (rwIds x (x.sp.take k)) (rwRefs x (x.sp.take k))) ∧ Hid (Below w.heap.size w wr)) (fun iv _ => n0 - (intOf iv).toNat)
 case atStart => exact ⟨0, by omega, rfl, Lib.hid ⟨none, 0, 0, none, 0, 0, HS2.out, OL.nil _ _ _ _ _, OL.nil _ _ _ _ _⟩, HB2⟩
 case round =>
  obtain ⟨k, hk, rfl, hsb', hb⟩ := hrel
  obtain ⟨wx, hwx⟩ : ∃ x, x = wr := ⟨_, rfl⟩
  rw [← hwx] at hsb' hb ⊢
  clear hwx
  obtain ⟨A1, k1, C1, A2, k2, C2, hsb⟩ := hsb'.out
  clear hsb'
  replace hsb := Lib.hid hsb
  by_cases hlt : k < n0
  ·
   obtain ⟨s, g, o, cs, hs, rfl, hat, hsp⟩ := H.out.sp.at_ stay_sp (Below.refl _ _) hlt
   have HSP := Lib.hid hsp
   obtain ⟨A, m, c, rfl, hlr, hid, _⟩ := hsp
   have HLR := Lib.hid hlr
   have HID := Lib.hid hid
   have HX := Lib.hid hs
   have HTK : Hid (x.sp.take (k + 1) = x.sp.take k ++ [s]) := Lib.hid (take_next hs)
   have HSB := Lib.hid (spB_refs (okB_at (siB_sp hv) hs))
   have HSZ : Hid (szOk s.refs) := Lib.hid (szOk_of (by have := HSB.out.1; omega) HSB.out.2.2)
   have HA := Lib.hid (hat.kept hb.out)
   clear hs hat hlr hid
   cases h0 : liveB x s.id with
   | false =>
    have HF : Hid (sparseB x s = false) := Lib.hid (by rw [← st0_sparse, h0]; rfl)
    have HI : Hid (rwIds x (x.sp.take (k + 1)) = rwIds x (x.sp.take k) ∧ rwRefs x (x.sp.take (k + 1)) = rwRefs x (x.sp.take k)) := Lib.hid (by rw [HTK.out, rwIds_step, rwRefs_step, HF.out]; simp)
    go_wp2_with (first
     | ((with_reducible show OpW 20); refine wpList_loadv _ rfl 61 (.tmp 19) rfl 6 (by kernel_rfl) g (o + k * 6) (spC s A m c) (by go_simp) HA.out rfl ?_)
     | ((with_reducible show OpW 4); refine wpList_alloc _ rfl 61 rfl spZ spZero ?_; intro w3 a1 a2 a3; have HV3 := Lib.hid a1; have HX3 := Lib.hid a2; clear a1 a2 a3)
     | ((with_reducible show OpN); refine wpList_storev _ rfl 61 (.tmp 4) (.tmp 20) rfl 6 (by kernel_rfl) wx.heap.size 0 _ spZ (spC s A m c) rfl rfl HV3.out rfl (one_sp s A m c) (by decide) ?_; intro w4 a1 a2 a3; have HV4 : Hid (BL w4 wx.heap.size 61 (spC s A m c)) := Lib.hid a1; have HX4 : Hid (Below wx.heap.size wx w4) := Lib.hid (((Kp.of_below (S := fun _ => False) HX3.out).after a2 (fun i hi e => by omega)).below (Nat.le_refl _) (fun _ h => h.elim)); clear a1 a2 a3; have r0 := HV4.out.get (j := 0) rfl)
     | (go_at_call 78; refine (live_st _ _ _ _ _ _ _ _ _ _ _ _ _ _ _ _ _ _ _ _ _ _ _ _ _ _ _ _ _ _ (HST.out.kept (below_thenB hb.out hb.out.size HX4.out)) s.id HID.out).mono ?_; rintro e w5 ⟨rfl, hw⟩; rw [hw, st0_live (List.mem_of_getElem? HX.out), h0]; clear hw w5))
    go_roundw
    case rel => exact ⟨k + 1, by omega, by go_num, Lib.hid (by rw [HI.out.1, HI.out.2]; exact ⟨A1, k1, C1, A2, k2, C2, hsb.out.kept HX4.out⟩), Lib.hid (below_thenB hb.out hb.out.size HX4.out)⟩
    case measure => simp [intOf]; omega
   | true =>
    cases h1 : useS (st0 x) x.pct s.refs with
    | false =>
     have HF : Hid (sparseB x s = false) := Lib.hid (by rw [← st0_sparse, h0, h1]; rfl)
     have HI : Hid (rwIds x (x.sp.take (k + 1)) = rwIds x (x.sp.take k) ∧ rwRefs x (x.sp.take (k + 1)) = rwRefs x (x.sp.take k)) := Lib.hid (by rw [HTK.out, rwIds_step, rwRefs_step, HF.out]; simp)
     go_wp2_with (first
      | ((with_reducible show OpW 20); refine wpList_loadv _ rfl 61 (.tmp 19) rfl 6 (by kernel_rfl) g (o + k * 6) (spC s A m c) (by go_simp) HA.out rfl ?_)
      | ((with_reducible show OpW 4); refine wpList_alloc _ rfl 61 rfl spZ spZero ?_; intro w3 a1 a2 a3; have HV3 := Lib.hid a1; have HX3 := Lib.hid a2; clear a1 a2 a3)
      | ((with_reducible show OpN); refine wpList_storev _ rfl 61 (.tmp 4) (.tmp 20) rfl 6 (by kernel_rfl) wx.heap.size 0 _ spZ (spC s A m c) rfl rfl HV3.out rfl (one_sp s A m c) (by decide) ?_; intro w4 a1 a2 a3; have HV4 : Hid (BL w4 wx.heap.size 61 (spC s A m c)) := Lib.hid a1; have HX4 : Hid (Below wx.heap.size wx w4) := Lib.hid (((Kp.of_below (S := fun _ => False) HX3.out).after a2 (fun i hi e => by omega)).below (Nat.le_refl _) (fun _ h => h.elim)); clear a1 a2 a3; have r0 := HV4.out.get (j := 0) rfl)
      | (go_at_call 78; refine (live_st _ _ _ _ _ _ _ _ _ _ _ _ _ _ _ _ _ _ _ _ _ _ _ _ _ _ _ _ _ _ (HST.out.kept (below_thenB hb.out hb.out.size HX4.out)) s.id HID.out).mono ?_; rintro e w5 ⟨rfl, hw⟩; rw [hw, st0_live (List.mem_of_getElem? HX.out), h0]; clear hw w5) | ((with_reducible show OpW 28); refine wpList_loadv _ rfl 61 (.tmp 4) rfl 6 (by kernel_rfl) wx.heap.size 0 (spC s A m c) rfl (BL.all HV4.out) rfl ?_) | (go_at_call 80; refine (use_any _ _ _ _ _ _ _ _ _ _ _ _ _ _ _ _ _ _ _ _ _ _ _ _ _ _ _ _ _ _ (HST.out.kept (below_thenB hb.out hb.out.size HX4.out)) HPC.out s A m c (HLR.out.kept stay_rf (below_thenB hb.out hb.out.size HX4.out)) HSZ.out).mono ?_; rintro e w6 ⟨rfl, b6⟩; rw [h1]; have HX6 := Lib.hid (below_thenB HX4.out HX4.out.size b6); have HV6 := Lib.hid (HV4.out.kept b6); have p5 := HV6.out.get (j := 5) rfl; have p4 := ((hsb.out.kept HX6.out).blk).get (j := 4) rfl; clear b6))
     go_roundw
     case rel => exact ⟨k + 1, by omega, by go_num, Lib.hid (by rw [HI.out.1, HI.out.2]; exact ⟨A1, k1, C1, A2, k2, C2, hsb.out.kept HX6.out⟩), Lib.hid (below_thenB hb.out hb.out.size HX6.out)⟩
     case measure => simp [intOf]; omega
    | true =>
     have HF : Hid (sparseB x s = true) := Lib.hid (by rw [← st0_sparse, h0, h1]; rfl)
     have hm := HLR.out.len_le
     have HML := Lib.hid HLR.out.1
     have HK2 : Hid (k2 ≤ 8000 ∧ k1 ≤ 1000) := Lib.hid (by have h8 := HLN.out k; have h9 := hsb.out.r.len; have h10 := hsb.out.s.len; omega)
     go_wp2_with (first
      | ((with_reducible show OpW 20); refine wpList_loadv _ rfl 61 (.tmp 19) rfl 6 (by kernel_rfl) g (o + k * 6) (spC s A m c) (by go_simp) HA.out rfl ?_)
      | ((with_reducible show OpW 4); refine wpList_alloc _ rfl 61 rfl spZ spZero ?_; intro w3 a1 a2 a3; have HV3 := Lib.hid a1; have HX3 := Lib.hid a2; clear a1 a2 a3)
      | ((with_reducible show OpN); refine wpList_storev _ rfl 61 (.tmp 4) (.tmp 20) rfl 6 (by kernel_rfl) wx.heap.size 0 _ spZ (spC s A m c) rfl rfl HV3.out rfl (one_sp s A m c) (by decide) ?_; intro w4 a1 a2 a3; have HV4 : Hid (BL w4 wx.heap.size 61 (spC s A m c)) := Lib.hid a1; have HX4 : Hid (Below wx.heap.size wx w4) := Lib.hid (((Kp.of_below (S := fun _ => False) HX3.out).after a2 (fun i hi e => by omega)).below (Nat.le_refl _) (fun _ h => h.elim)); clear a1 a2 a3; have r0 := HV4.out.get (j := 0) rfl)
      | (go_at_call 78; refine (live_st _ _ _ _ _ _ _ _ _ _ _ _ _ _ _ _ _ _ _ _ _ _ _ _ _ _ _ _ _ _ (HST.out.kept (below_thenB hb.out hb.out.size HX4.out)) s.id HID.out).mono ?_; rintro e w5 ⟨rfl, hw⟩; rw [hw, st0_live (List.mem_of_getElem? HX.out), h0]; clear hw w5) | ((with_reducible show OpW 28); refine wpList_loadv _ rfl 61 (.tmp 4) rfl 6 (by kernel_rfl) wx.heap.size 0 (spC s A m c) rfl (BL.all HV4.out) rfl ?_) | (go_at_call 80; refine (use_any _ _ _ _ _ _ _ _ _ _ _ _ _ _ _ _ _ _ _ _ _ _ _ _ _ _ _ _ _ _ (HST.out.kept (below_thenB hb.out hb.out.size HX4.out)) HPC.out s A m c (HLR.out.kept stay_rf (below_thenB hb.out hb.out.size HX4.out)) HSZ.out).mono ?_; rintro e w6 ⟨rfl, b6⟩; rw [h1]; have HX6 := Lib.hid (below_thenB HX4.out HX4.out.size b6); have HV6 := Lib.hid (HV4.out.kept b6); have p5 := HV6.out.get (j := 5) rfl; have p4 := ((hsb.out.kept HX6.out).blk).get (j := 4) rfl; clear b6))
     clear p5 p4
     have HB6 := Lib.hid (below_thenB hb.out hb.out.size HX6.out)
     go_loopw [40] (fun iv wr => ∃ j : Nat, j ≤ m ∧ iv = .int .i64 (j : Int) ∧ Hid (∃ A2' k2' C2', SB w wr w.heap.size 1 A1 k1 C1 A2' k2' C2' (rwIds x (x.sp.take k)) (rwRefs x (x.sp.take k) ++ (s.refs.take j).filter fun r => (st0 x).need r.1 && decide ((st0 x).nam r.1 = 1))) ∧ Hid (BL wr wx.heap.size 61 (spC s A m c)) ∧ Hid (Below w.heap.size w wr)) (fun iv _ => m - (intOf iv).toNat)
     case atStart => exact ⟨0, by omega, rfl, Lib.hid ⟨A2, k2, C2, by rw [List.take_zero, List.filter_nil, List.append_nil]; exact hsb.out.kept HX6.out⟩, HV6, HB6⟩
     case round =>
      obtain ⟨j, hj, rfl, hsc', hvs, hb'⟩ := hrel
      obtain ⟨wy, hwy⟩ : ∃ x, x = wr := ⟨_, rfl⟩
      rw [← hwy] at hsc' hvs hb' ⊢
      clear hwy
      obtain ⟨A3, k3, C3, hsc⟩ := hsc'.out
      clear hsc'
      replace hsc := Lib.hid hsc
      by_cases hjm : j < m
      ·
       obtain ⟨r, g', o', cs', hr', e', hat', hcs', hok⟩ := HLR.out.at_ stay_rf (Below.refl _ _) hjm
       subst e'
       subst hcs'
       have HA' := Lib.hid (hat'.kept hb'.out)
       have HKS := Lib.hid (keyS r.1 (reach_key hok.1))
       have HRX := Lib.hid hr'
       have HOK := Lib.hid hok
       clear hr' hat' hok
       have HDK : Hid (Below w.heap.size w wy) := hb'
       cases h2 : (st0 x).need r.1 with
       | false =>
        have HFJ : Hid (((s.refs.take (j + 1)).filter fun r => (st0 x).need r.1 && decide ((st0 x).nam r.1 = 1)) = (s.refs.take j).filter fun r => (st0 x).need r.1 && decide ((st0 x).nam r.1 = 1)) := Lib.hid (by rw [filt_step HRX.out]; simp [h2])
        go_wp2_with (first
         | ((with_reducible show OpW 43); refine wpList_loadv _ rfl 73 (.tmp 42) rfl 3 (by kernel_rfl) g' (o' + j * 3) (rfL r) (by go_simp) HA'.out rfl ?_)
         | ((with_reducible show OpW 9); refine wpList_alloc _ rfl 73 rfl rfZ rfZero ?_; intro w3 a1 a2 a3; have HV3 := Lib.hid a1; have HX3 := Lib.hid a2; clear a1 a2 a3)
         | ((with_reducible show OpN); refine wpList_storev _ rfl 73 (.tmp 9) (.tmp 43) rfl 3 (by kernel_rfl) wy.heap.size 0 _ rfZ (rfL r) rfl rfl HV3.out rfl (one_rf r) (by decide) ?_; intro w4 a1 a2 a3; have HV4 : Hid (BL w4 wy.heap.size 73 (rfL r)) := Lib.hid a1; have HX4 : Hid (Below wy.heap.size wy w4) := Lib.hid (((Kp.of_below (S := fun _ => False) HX3.out).after a2 (fun i hi e => by omega)).below (Nat.le_refl _) (fun _ h => h.elim)); clear a1 a2 a3; have r0 := HV4.out.get (j := 0) rfl; have q4 := ((hsc.out.kept HX4.out).blk).get (j := 4) rfl; have q8 := (HST.out.blk.kept (below_thenB hb'.out hb'.out.size HX4.out)).get (j := 8) rfl; have q13 := (HST.out.blk.kept (below_thenB hb'.out hb'.out.size HX4.out)).get (j := 13) rfl)
         | fail)
        refine Text.wp_region_text (fun _ => True) [(0, 4), (1, 4), (2, 4), (4, 4), (3, 1), (5, 1), (6, 2), (7, 4), (8, 4), (9, 4), (10, 4), (11, 4), (12, 4), (13, 4), (14, 4), (15, 4), (16, 4)] (by kernel_rfl) (by kernel_rfl) (fun _ _ _ _ _ h => h) (trivial) ?_
        iterate 4 (refine Text.purek rfl rfl (fun K hK => ⟨_, fun w' => by go_simp <;> rfl, ?_⟩); go_simp; refine hK _ ?_; clear hK K)
        iterate 2 (refine Text.readk rfl rfl (fun K hK => ⟨_, by go_simp <;> rfl, ?_⟩); go_simp; refine hK _ ?_; clear hK K)
        refine Text.eff rfl rfl (fun K hK => ?_)
        refine wp_lookG _ (.tmp 47) (.tmp 49) 78 9 4 rfl strKeyed mapSB (.bool false) boolZero m1 _ rfl (HST.out.maps.kept (below_thenB hb'.out hb'.out.size HX4.out.drew)).need r.1 rfl HKS.out ?_
        rw [h2]
        go_simp
        refine hK _ _ trivial ?_
        clear hK K
        (refine Text.purek rfl rfl (fun K hK => ⟨_, fun w' => by go_simp <;> rfl, ?_⟩); go_simp; refine hK _ ?_; clear hK K)
        iterate 8 (refine Text.skipk (.inr (.inr rfl)) rfl rfl (fun K hK => ?_); go_simp; refine hK _ ?_; clear hK K)
        (refine Text.purek rfl rfl (fun K hK => ⟨_, fun w' => by go_simp <;> rfl, ?_⟩); go_simp; refine hK _ ?_; clear hK K)
        refine Text.done ?_
        go_wp2_with fail
        go_roundw
        case rel => exact ⟨j + 1, by omega, by go_num, Lib.hid (by rw [HFJ.out]; exact ⟨A3, k3, C3, (hsc.out.kept HX4.out).kept (Below.refl _ _).drew⟩), Lib.hid ((hvs.out.kept HX4.out).kept (Below.refl _ _).drew), Lib.hid (below_thenB hb'.out hb'.out.size HX4.out.drew)⟩
        case measure => simp [intOf]; omega
       | true =>
        by_cases h3 : (st0 x).nam r.1 = 1
        ·
         have HNE : Hid ((st0 x).nam r.1 = 1) := Lib.hid h3
         have HFJ : Hid (((s.refs.take (j + 1)).filter fun r => (st0 x).need r.1 && decide ((st0 x).nam r.1 = 1)) = ((s.refs.take j).filter fun r => (st0 x).need r.1 && decide ((st0 x).nam r.1 = 1)) ++ [r]) := Lib.hid (by rw [filt_step HRX.out]; simp [h2, h3])
         clear h3
         obtain ⟨css, hc1, hc2, hc3, hc4, hc5⟩ := hsc.out.r
         rw [hsc.out.r.len] at hc4
         have HK3 : Hid (k3 ≤ 8008) := Lib.hid (by
          have h8 := hsc.out.r.len
          have h9 := hsb.out.r.len
          rw [List.length_append] at h8
          have h10 : ((s.refs.take j).filter fun r => (st0 x).need r.1 && decide ((st0 x).nam r.1 = 1)).length ≤ 8 := Nat.le_trans (List.length_filter_le _ _) (by rw [List.length_take]; have := HSB.out.1; omega)
          have := HK2.out
          omega)
         have HC1 := Lib.hid hc1
         have HC2 := Lib.hid hc2
         have HC3 := Lib.hid hc3
         have HC4 := Lib.hid hc4
         have HC5 := Lib.hid hc5
         clear hc1 hc2 hc3 hc4 hc5
         go_wp2_with (first
          | ((with_reducible show OpW 43); refine wpList_loadv _ rfl 73 (.tmp 42) rfl 3 (by kernel_rfl) g' (o' + j * 3) (rfL r) (by go_simp) HA'.out rfl ?_)
          | ((with_reducible show OpW 9); refine wpList_alloc _ rfl 73 rfl rfZ rfZero ?_; intro w3 a1 a2 a3; have HV3 := Lib.hid a1; have HX3 := Lib.hid a2; clear a1 a2 a3)
          | ((with_reducible show OpN); refine wpList_storev _ rfl 73 (.tmp 9) (.tmp 43) rfl 3 (by kernel_rfl) wy.heap.size 0 _ rfZ (rfL r) rfl rfl HV3.out rfl (one_rf r) (by decide) ?_; intro w4 a1 a2 a3; have HV4 : Hid (BL w4 wy.heap.size 73 (rfL r)) := Lib.hid a1; have HX4 : Hid (Below wy.heap.size wy w4) := Lib.hid (((Kp.of_below (S := fun _ => False) HX3.out).after a2 (fun i hi e => by omega)).below (Nat.le_refl _) (fun _ h => h.elim)); clear a1 a2 a3; have r0 := HV4.out.get (j := 0) rfl; have q4 := ((hsc.out.kept HX4.out).blk).get (j := 4) rfl; have q8 := (HST.out.blk.kept (below_thenB hb'.out hb'.out.size HX4.out)).get (j := 8) rfl; have q13 := (HST.out.blk.kept (below_thenB hb'.out hb'.out.size HX4.out)).get (j := 13) rfl)
          | fail)
         refine Text.wp_region_text (fun _ => True) [(0, 4), (1, 4), (2, 4), (4, 4), (3, 1), (5, 1), (6, 2), (7, 4), (8, 4), (9, 4), (10, 4), (12, 4), (11, 1), (13, 1), (14, 2), (15, 4), (16, 4)] (by kernel_rfl) (by kernel_rfl) (fun _ _ _ _ _ h => h) (trivial) ?_
         iterate 4 (refine Text.purek rfl rfl (fun K hK => ⟨_, fun w' => by go_simp <;> rfl, ?_⟩); go_simp; refine hK _ ?_; clear hK K)
         iterate 2 (refine Text.readk rfl rfl (fun K hK => ⟨_, by go_simp <;> rfl, ?_⟩); go_simp; refine hK _ ?_; clear hK K)
         refine Text.eff rfl rfl (fun K hK => ?_)
         refine wp_lookG _ (.tmp 47) (.tmp 49) 78 9 4 rfl strKeyed mapSB (.bool false) boolZero m1 _ rfl (HST.out.maps.kept (below_thenB hb'.out hb'.out.size HX4.out.drew)).need r.1 rfl HKS.out ?_
         rw [h2]
         go_simp
         refine hK _ _ trivial ?_
         clear hK K
         iterate 5 (refine Text.purek rfl rfl (fun K hK => ⟨_, fun w' => by go_simp <;> rfl, ?_⟩); go_simp; refine hK _ ?_; clear hK K)
         iterate 2 (refine Text.readk rfl rfl (fun K hK => ⟨_, by go_simp <;> rfl, ?_⟩); go_simp; refine hK _ ?_; clear hK K)
         refine Text.effw rfl rfl (fun K hK => ?_)
         refine wp_lookG _ (.tmp 55) (.tmp 57) 77 9 3 rfl strKeyed mapSI (.int .i64 0) intZero m6 _ rfl (HST.out.maps.kept (below_thenB hb'.out hb'.out.size HX4.out.drew)).nam r.1 rfl HKS.out ?_
         rw [HNE.out]
         go_simp
         refine hK _ _ trivial ?_
         clear hK K
         iterate 2 (refine Text.purek rfl rfl (fun K hK => ⟨_, fun w' => by go_simp <;> rfl, ?_⟩); go_simp; refine hK _ ?_; clear hK K)
         refine Text.done ?_
         go_wp2_with (first
          | ((with_reducible show OpW 63); refine wpList_loadv _ rfl 73 (.tmp 9) rfl 3 (by kernel_rfl) wy.heap.size 0 (rfL r) rfl (BL.all (HV4.out.kept (Below.refl _ _).drew)) rfl ?_)
          | ((with_reducible show OpW 64); refine wpList_bslice _ rfl 40 73 1 _ rfl #[(0, .agg (rfL r).toArray)] (by rw [List.map_toArray]; rfl) (rfL r) (bslRf r _) ?_; intro w8 a1 a2 a3; have HG8 := Lib.hid a1; have HX8 := Lib.hid (below_thenB HX4.out HX4.out.size (below_ofDrew a2)); clear a1 a2 a3)
          | ((with_reducible show OpW 65); obtain ⟨iS, i1, i2, i3, i4⟩ := info_some infoRf; refine wpList_appRW _ rfl (.tmp 62) (.tmp 64) 40 73 3 iS _ rfl Try.underlying40 i1 i2 i3 rfl _ k3 _ rfl (HC4.out.kept HX8.out) w4.heap.size _ rfl HG8.out rfl (one_rf r) (by rw [i4]; have := HK3.out; omega) (by have := HK3.out; omega) ?_; intro v' w9 a1; obtain ⟨A9, C9, e9, _⟩ := a1.row.form; subst e9; have HR9 := Lib.hid a1; have HG9 := Lib.hid (a1.bl (HC4.out.kept HX8.out) (hsc.out.blk.kept HX8.out) (by decide)); have HT9 := Lib.hid (a1.bl (HC4.out.kept HX8.out) (hvs.out.kept HX8.out) (by decide)); clear a1 i1 i2 i3 i4)
          | ((with_reducible show OpN); refine wpList_store1 _ rfl 40 (.tmp 66) (.tmp 65) rfl (rfSz _) w.heap.size 4 _ _ (.slice A9 (k3 + 1) C9) rfl rfl HG9.out rfl rfl (by simp) ?_; intro w10 a1 a2 a3; have HG10 := Lib.hid a1; have HK10 := Lib.hid a2; clear a1 a2 a3))
         have HY8 : Hid (Below w.heap.size w w8) := Lib.hid (below_thenB hb'.out hb'.out.size HX8.out)
         have HS10 : Hid (SB w w10 w.heap.size 1 A1 k1 C1 A9 (k3 + 1) C9 (rwIds x (x.sp.take k)) (rwRefs x (x.sp.take k) ++ (s.refs.take (j + 1)).filter fun r => (st0 x).need r.1 && decide ((st0 x).nam r.1 = 1))) := Lib.hid (by
          rw [HFJ.out, ← List.append_assoc]
          exact SB.pushR (hsc.out.kept HX8.out) HY8.out.size HC1.out HC2.out HC3.out HC5.out (HC4.out.kept HX8.out) HOK.out HR9.out HG10.out HK10.out)
         have HT10 := Lib.hid (HK10.out.bl HT9.out (HT9.out.ne HG9.out (by decide)))
         have HB10 : Hid (Below w.heap.size w w10) := Lib.hid ((((Kp.of_below (S := fun _ => False) HY8.out).after HR9.out.kp (fun i hi e => by have := HC5.out i e; omega)).after HK10.out (fun i hi e => by omega)).below (Nat.le_refl _) (fun _ h => h.elim))
         go_roundw
         case rel => exact ⟨j + 1, by omega, by go_num, Lib.hid ⟨A9, k3 + 1, C9, HS10.out⟩, HT10, HB10⟩
         case measure => simp [intOf]; omega
        ·
         obtain ⟨N, hN⟩ : ∃ N, N = (st0 x).nam r.1 := ⟨_, rfl⟩
         have HNE : Hid ((st0 x).nam r.1 = N) := Lib.hid hN.symm
         have e3 : (N == 1) = false := by rw [hN]; simpa using h3
         have HFJ : Hid (((s.refs.take (j + 1)).filter fun r => (st0 x).need r.1 && decide ((st0 x).nam r.1 = 1)) = (s.refs.take j).filter fun r => (st0 x).need r.1 && decide ((st0 x).nam r.1 = 1)) := Lib.hid (by rw [filt_step HRX.out]; simp [h2, h3])
         clear h3 hN
         go_wp2_with (first
          | ((with_reducible show OpW 43); refine wpList_loadv _ rfl 73 (.tmp 42) rfl 3 (by kernel_rfl) g' (o' + j * 3) (rfL r) (by go_simp) HA'.out rfl ?_)
          | ((with_reducible show OpW 9); refine wpList_alloc _ rfl 73 rfl rfZ rfZero ?_; intro w3 a1 a2 a3; have HV3 := Lib.hid a1; have HX3 := Lib.hid a2; clear a1 a2 a3)
          | ((with_reducible show OpN); refine wpList_storev _ rfl 73 (.tmp 9) (.tmp 43) rfl 3 (by kernel_rfl) wy.heap.size 0 _ rfZ (rfL r) rfl rfl HV3.out rfl (one_rf r) (by decide) ?_; intro w4 a1 a2 a3; have HV4 : Hid (BL w4 wy.heap.size 73 (rfL r)) := Lib.hid a1; have HX4 : Hid (Below wy.heap.size wy w4) := Lib.hid (((Kp.of_below (S := fun _ => False) HX3.out).after a2 (fun i hi e => by omega)).below (Nat.le_refl _) (fun _ h => h.elim)); clear a1 a2 a3; have r0 := HV4.out.get (j := 0) rfl; have q4 := ((hsc.out.kept HX4.out).blk).get (j := 4) rfl; have q8 := (HST.out.blk.kept (below_thenB hb'.out hb'.out.size HX4.out)).get (j := 8) rfl; have q13 := (HST.out.blk.kept (below_thenB hb'.out hb'.out.size HX4.out)).get (j := 13) rfl)
          | fail)
         refine Text.wp_region_text (fun _ => True) [(0, 4), (1, 4), (2, 4), (4, 4), (3, 1), (5, 1), (6, 2), (7, 4), (8, 4), (9, 4), (10, 4), (12, 4), (11, 1), (13, 1), (14, 2), (15, 4), (16, 4)] (by kernel_rfl) (by kernel_rfl) (fun _ _ _ _ _ h => h) (trivial) ?_
         iterate 4 (refine Text.purek rfl rfl (fun K hK => ⟨_, fun w' => by go_simp <;> rfl, ?_⟩); go_simp; refine hK _ ?_; clear hK K)
         iterate 2 (refine Text.readk rfl rfl (fun K hK => ⟨_, by go_simp <;> rfl, ?_⟩); go_simp; refine hK _ ?_; clear hK K)
         refine Text.eff rfl rfl (fun K hK => ?_)
         refine wp_lookG _ (.tmp 47) (.tmp 49) 78 9 4 rfl strKeyed mapSB (.bool false) boolZero m1 _ rfl (HST.out.maps.kept (below_thenB hb'.out hb'.out.size HX4.out.drew)).need r.1 rfl HKS.out ?_
         rw [h2]
         go_simp
         refine hK _ _ trivial ?_
         clear hK K
         iterate 5 (refine Text.purek rfl rfl (fun K hK => ⟨_, fun w' => by go_simp <;> rfl, ?_⟩); go_simp; refine hK _ ?_; clear hK K)
         iterate 2 (refine Text.readk rfl rfl (fun K hK => ⟨_, by go_simp <;> rfl, ?_⟩); go_simp; refine hK _ ?_; clear hK K)
         refine Text.effw rfl rfl (fun K hK => ?_)
         refine wp_lookG _ (.tmp 55) (.tmp 57) 77 9 3 rfl strKeyed mapSI (.int .i64 0) intZero m6 _ rfl (HST.out.maps.kept (below_thenB hb'.out hb'.out.size HX4.out.drew)).nam r.1 rfl HKS.out ?_
         rw [HNE.out]
         go_simp
         refine hK _ _ trivial ?_
         clear hK K
         iterate 2 (refine Text.purek rfl rfl (fun K hK => ⟨_, fun w' => by go_simp <;> rfl, ?_⟩); go_simp; refine hK _ ?_; clear hK K)
         refine Text.done ?_
         go_wp2_with fail
         go_roundw
         case rel => exact ⟨j + 1, by omega, by go_num, Lib.hid (by rw [HFJ.out]; exact ⟨A3, k3, C3, (hsc.out.kept HX4.out).kept (Below.refl _ _).drew⟩), Lib.hid ((hvs.out.kept HX4.out).kept (Below.refl _ _).drew), Lib.hid (below_thenB hb'.out hb'.out.size HX4.out.drew)⟩
         case measure => simp [intOf]; omega
      ·
       obtain rfl : m = j := by omega
       have HTM : Hid (((s.refs.take m).filter fun r => (st0 x).need r.1 && decide ((st0 x).nam r.1 = 1)) = aloneT (st0 x) s) := Lib.hid (by rw [take_end HML.out]; rfl)
       rw [HTM.out] at hsc
       have HLK : Hid (k3 = k2 + (aloneT (st0 x) s).length) := Lib.hid (by
        have h8 := hsc.out.r.len
        have h9 := hsb.out.r.len
        rw [List.length_append] at h8; omega)
       have p4 := hsc.out.blk.get (j := 4) rfl
       have p1 := hsc.out.blk.get (j := 1) rfl
       have p0 := hvs.out.get (j := 0) rfl
       cases h2 : (aloneT (st0 x) s).isEmpty with
       | true =>
        have hk3 : k3 = k2 := by rw [HLK.out, List.isEmpty_iff.1 h2]; rfl
        have d1 : decide ((k2 : Int) < (k3 : Int)) = false := decide_eq_false (by omega)
        have d2 : decide (k2 < k3) = false := decide_eq_false (by omega)
        have HI : Hid (rwIds x (x.sp.take (k + 1)) = rwIds x (x.sp.take k) ∧ rwRefs x (x.sp.take (k + 1)) = rwRefs x (x.sp.take k) ++ aloneT (st0 x) s) := Lib.hid (by rw [HTK.out, rwIds_step, rwRefs_step, HF.out, h2]; simp)
        clear hk3
        go_wp2_with fail
        go_roundw
        case rel => exact ⟨k + 1, by omega, by go_num, Lib.hid (by rw [HI.out.1, HI.out.2]; exact ⟨A1, k1, C1, A3, k3, C3, hsc.out⟩), hb'⟩
        case measure => simp [intOf]; omega
       | false =>
        have hk3 : k2 < k3 := by
         have : 0 < (aloneT (st0 x) s).length := by
          cases hl : aloneT (st0 x) s with
          | nil => rw [hl] at h2; cases h2
          | cons a l => simp
         have := HLK.out
         omega
        have d1 : decide ((k2 : Int) < (k3 : Int)) = true := decide_eq_true (by omega)
        have d2 : decide (k2 < k3) = true := decide_eq_true (by omega)
        have HI : Hid (rwIds x (x.sp.take (k + 1)) = rwIds x (x.sp.take k) ++ [s.id] ∧ rwRefs x (x.sp.take (k + 1)) = rwRefs x (x.sp.take k) ++ aloneT (st0 x) s) := Lib.hid (by rw [HTK.out, rwIds_step, rwRefs_step, HF.out, h2]; simp)
        clear hk3
        obtain ⟨css, hc1, hc2, hc3, hc4, hc5⟩ := hsc.out.s
        rw [hsc.out.s.len] at hc4
        have HC1 := Lib.hid hc1
        have HC2 := Lib.hid hc2
        have HC3 := Lib.hid hc3
        have HC4 := Lib.hid hc4
        have HC5 := Lib.hid hc5
        clear hc1 hc2 hc3 hc4 hc5
        go_wp2_with (first
         | ((with_reducible show OpW 77); refine wpList_bslice _ rfl 23 9 1 _ rfl #[(0, .string (strB s.id))] (by rw [List.map_toArray]; rfl) [.string (strB s.id)] (bslStr s.id _) ?_; intro w8 a1 a2 a3; have HG8 := Lib.hid a1; have HX8 := Lib.hid a2; clear a1 a2 a3)
         | ((with_reducible show OpW 78); obtain ⟨iS, i1, i2, i3, i4⟩ := info_some infoStr; refine wpList_appRW _ rfl (.tmp 74) (.tmp 77) 23 9 1 iS _ rfl Try.underlying23 i1 i2 i3 rfl _ k1 _ rfl (HC4.out.kept HX8.out) wy.heap.size _ rfl HG8.out rfl (one_str s.id) (by rw [i4]; have := HK2.out; omega) (by have := HK2.out; omega) ?_; intro v' w9 a1; obtain ⟨A9, C9, e9, _⟩ := a1.row.form; subst e9; have HR9 := Lib.hid a1; have HG9 := Lib.hid (a1.bl (HC4.out.kept HX8.out) (hsc.out.blk.kept HX8.out) (by decide)); clear a1 i1 i2 i3 i4)
         | ((with_reducible show OpN); refine wpList_store1 _ rfl 23 (.tmp 79) (.tmp 78) rfl (strSz _) w.heap.size 1 _ _ (.slice A9 (k1 + 1) C9) rfl rfl HG9.out rfl rfl (by simp) ?_; intro w10 a1 a2 a3; have HG10 := Lib.hid a1; have HK10 := Lib.hid a2; clear a1 a2 a3))
        have HY8 : Hid (Below w.heap.size w w8) := Lib.hid (below_thenB hb'.out hb'.out.size HX8.out)
        have HS10 : Hid (SB w w10 w.heap.size 1 A9 (k1 + 1) C9 A3 k3 C3 (rwIds x (x.sp.take (k + 1))) (rwRefs x (x.sp.take (k + 1)))) := Lib.hid (by
         rw [HI.out.1, HI.out.2]
         exact SB.pushS (hsc.out.kept HX8.out) HY8.out.size HC1.out HC2.out HC3.out HC5.out (HC4.out.kept HX8.out) HID.out HR9.out HG10.out HK10.out)
        have HB10 : Hid (Below w.heap.size w w10) := Lib.hid ((((Kp.of_below (S := fun _ => False) HY8.out).after HR9.out.kp (fun i hi e => by have := HC5.out i e; omega)).after HK10.out (fun i hi e => by omega)).below (Nat.le_refl _) (fun _ h => h.elim))
        go_roundw
        case rel => exact ⟨k + 1, by omega, by go_num, Lib.hid ⟨A9, k1 + 1, C9, A3, k3, C3, HS10.out⟩, HB10⟩
        case measure => simp [intOf]; omega
  ·
   obtain rfl : n0 = k := by omega
   rw [take_end HL.out] at hsb
   have HLE : Hid ((rwRefs x x.sp).length ≤ 8000 ∧ (rwIds x x.sp).length ≤ 1000) := Lib.hid (by have := HLN.out n0; rw [take_end HL.out] at this; exact this)
   go_wp2_with (first
    | ((with_reducible show OpW 81); refine wpList_loadv _ rfl 44 (.tmp 2) rfl 5 (by kernel_rfl) w.heap.size 0 _ rfl (BL.all hsb.out.blk) rfl ?_)
    | ((with_reducible show OpN); refine wpList_storev _ rfl 44 (.tmp 2) (.tmp 81) rfl 5 (by kernel_rfl) w.heap.size 0 _ _ (sbC 1 A1 k1 C1 A2 k2 C2) rfl rfl hsb.out.blk rfl (one_val _ rfl) (by simp) ?_; intro w5 a1 a2 a3; have HT5 : Hid (BL w5 w.heap.size 44 (sbC 1 A1 k1 C1 A2 k2 C2)) := Lib.hid a1; have HK5 := Lib.hid a2; clear a1 a2 a3))
   (try simp only [Exit.inBlock, Exit.then])
   have HB5 : Hid (Below w.heap.size w w5) := Lib.hid (((Kp.of_below (S := fun _ => False) hb.out).after HK5.out (fun i hi e => by omega)).below (Nat.le_refl _) (fun _ h => h.elim))
   have HSB5 : Hid (SB w w5 w.heap.size 1 A1 k1 C1 A2 k2 C2 (rwIds x x.sp) (rwRefs x x.sp)) := Lib.hid (by
    obtain ⟨_, r1⟩ := hsb.out.s.row
    obtain ⟨_, r2⟩ := hsb.out.r.row
    exact ⟨HT5.out, hsb.out.s.kp HK5.out (fun b hb' e => r1.ne_bl hsb.out.blk (by decide) b hb' e), hsb.out.r.kp HK5.out (fun b hb' e => r2.ne_bl hsb.out.blk (by decide) b hb' e)⟩)
   refine bodyPost_ret (results_at w5 Try.results39 (n := 5) (by kernel_rfl) (g := w.heap.size) (o := 0) rfl (ms := sbC 1 A1 k1 C1 A2 k2 C2) (BL.all HT5.out) rfl) rfl ⟨_, rfl, HSB5.out.stpT HB5.out (by have := HLE.out; unfold lim; omega) (by have := HLE.out; unfold lim; omega) rfl, HB5.out⟩
end Go.Proofs.Ytboglaokdgnpaaa
