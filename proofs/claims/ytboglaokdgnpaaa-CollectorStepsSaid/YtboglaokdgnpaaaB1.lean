/- Several texts in one: Wj, Wl. -/
import Derived.Test.YtboglaokdgnpaaaA24
import Derived.Test.YtboglaokdgnpaaaA26
/- The reference's step under construction. (Printed by gen_wj.py.) -/
namespace Go.Proofs.Ytboglaokdgnpaaa
open Go Go.RowKit Gf Sha

theorem stqZero : (Try.prog.info? 42).map (·.zero) = some (some (.agg stpZ.toArray)) := by kernel_rfl
/-- A step under construction in block gs. -/
structure SQ (base w : World) (gs : Nat) (kd : Int) (A1 : Option Addr) (k1 C1 : Nat) (A2 : Option Addr) (k2 C2 : Nat) (I : List (List UInt8)) (R : List Rf) : Prop where
 blk : BL w gs 42 (sbC kd A1 k1 C1 A2 k2 C2)
 s : OL rStr 1 9 base w (.slice A1 k1 C1) I
 r : OL rRf 3 73 base w (.slice A2 k2 C2) R
section
variable {base w w' w9 : World} {gs k1 C1 k2 C2 : Nat} {kd : Int} {A1 A2 : Option Addr} {I : List (List UInt8)} {R : List Rf}
theorem SQ.kept (h : SQ base w gs kd A1 k1 C1 A2 k2 C2 I R) (hb : Below w.heap.size w w') : SQ base w' gs kd A1 k1 C1 A2 k2 C2 I R := ⟨h.blk.kept hb, h.s.kept hb, h.r.kept hb⟩
/-- A ref pushed. -/
theorem SQ.pushR (h : SQ base w gs kd A1 k1 C1 A2 k2 C2 I R) (hw : base.heap.size ≤ w.heap.size) {css : List (List Value)} (hl : css.length = R.length) (h2 : ∀ cs ∈ css, cs.length = 3) (h3 : ∀ k (h : k < R.length) (h' : k < css.length), rRf base css[k] R[k]) (h5 : ∀ b, (Value.slice A2 k2 C2).ownBlock = some b → base.heap.size ≤ b)
  (hrw : RW w 73 3 (.slice A2 k2 C2) k2 css.flatten) {r : Rf} (hr : okRf r) {A' : Option Addr} {C' : Nat} (ap : AppR w 73 3 (.slice A2 k2 C2) k2 1 css.flatten (rfL r) (.slice A' (k2 + 1) C') w9) (hb : BL w' gs 42 (sbC kd A1 k1 C1 A' (k2 + 1) C')) (hk : Kp (· = gs) w9 w') :
  SQ base w' gs kd A1 k1 C1 A' (k2 + 1) C' I (R ++ [r]) := by
 have hg9 : BL w9 gs 42 _ := ap.bl hrw h.blk (by decide)
 have hs : ∀ b, (Value.slice A1 k1 C1).ownBlock = some b → ¬ (Value.slice A2 k2 C2).ownBlock = some b := fun b h1 h2 => by
  obtain ⟨_, h4⟩ := h.s.row
  obtain ⟨cs', h5⟩ := h4.ty h1
  exact hrw.ne_bl h5 (by decide) b h2 rfl
 have hs9 : OL rStr 1 9 base w9 (.slice A1 k1 C1) I := h.s.kp ap.kp hs
 have hr9 : OL rRf 3 73 base w9 (.slice A' (k2 + 1) C') (R ++ [r]) := OL.push hl h2 h3 h5 h.r.len rfl ⟨rfl, hr⟩ hw ap
 obtain ⟨_, r1⟩ := hs9.row
 obtain ⟨_, r2⟩ := hr9.row
 exact ⟨hb, hs9.kp hk (fun b hb' e => r1.ne_bl hg9 (by decide) b hb' e), hr9.kp hk (fun b hb' e => r2.ne_bl hg9 (by decide) b hb' e)⟩
/-- A name pushed. -/
theorem SQ.pushS (h : SQ base w gs kd A1 k1 C1 A2 k2 C2 I R) (hw : base.heap.size ≤ w.heap.size) {css : List (List Value)} (hl : css.length = I.length) (h2 : ∀ cs ∈ css, cs.length = 1) (h3 : ∀ k (h : k < I.length) (h' : k < css.length), rStr base css[k] I[k]) (h5 : ∀ b, (Value.slice A1 k1 C1).ownBlock = some b → base.heap.size ≤ b)
  (hrw : RW w 9 1 (.slice A1 k1 C1) k1 css.flatten) {r : List UInt8} (hr : r.length ≤ reachBytes) {A' : Option Addr} {C' : Nat} (ap : AppR w 9 1 (.slice A1 k1 C1) k1 1 css.flatten [.string (strB r)] (.slice A' (k1 + 1) C') w9) (hb : BL w' gs 42 (sbC kd A' (k1 + 1) C' A2 k2 C2)) (hk : Kp (· = gs) w9 w') :
  SQ base w' gs kd A' (k1 + 1) C' A2 k2 C2 (I ++ [r]) R := by
 have hg9 : BL w9 gs 42 _ := ap.bl hrw h.blk (by decide)
 have hs : ∀ b, (Value.slice A2 k2 C2).ownBlock = some b → ¬ (Value.slice A1 k1 C1).ownBlock = some b := fun b h1 h2 => by
  obtain ⟨_, h4⟩ := h.r.row
  obtain ⟨cs', h5⟩ := h4.ty h1
  exact hrw.ne_bl h5 (by decide) b h2 rfl
 have hs9 : OL rRf 3 73 base w9 (.slice A2 k2 C2) R := h.r.kp ap.kp hs
 have hr9 : OL rStr 1 9 base w9 (.slice A' (k1 + 1) C') (I ++ [r]) := OL.push hl h2 h3 h5 h.s.len rfl ⟨rfl, hr⟩ hw ap
 obtain ⟨_, r1⟩ := hs9.row
 obtain ⟨_, r2⟩ := hr9.row
 exact ⟨hb, hr9.kp hk (fun b hb' e => r2.ne_bl hg9 (by decide) b hb' e), hs9.kp hk (fun b hb' e => r1.ne_bl hg9 (by decide) b hb' e)⟩
/-- The step is built: it reads. -/
theorem SQ.stp (h : SQ base w gs kd A1 k1 C1 A2 k2 C2 I R) (hb : Below base.heap.size base w) (h1 : I.length * 16 ≤ lim) (h2 : R.length * 32 ≤ lim) (hk : wfI kd) : rStp w (sbC kd A1 k1 C1 A2 k2 C2) ⟨kd, I, ([], 0), R⟩ := by
 obtain ⟨A, c, e, l1⟩ := h.s.ls (b := 16) stay_str hb h1
 obtain ⟨A', c', e', l2⟩ := h.r.ls (b := 32) stay_rf hb h2
 cases e
 cases e'
 exact ⟨A1, _, C1, A2, _, C2, rfl, l1, l2, hk, Nat.zero_le _, rfl⟩
end
/-- A step whose lists lie in blocks of other types than steps. -/
def rStpQ : Rdg Stp := fun w cs x => rStp w cs x ∧ ∀ (A : Option Addr) (n c : Nat), Value.slice A n c ∈ cs → ∀ a, A = some a → ∃ t l, BL w a.block t l ∧ t ≠ 42
theorem rStpQ.kp {w w' : World} {cs : List Value} {x : Stp} (h : rStpQ w cs x) {S : Nat → Prop} (hk : Kp S w w') (hs : ∀ i, i < w.heap.size → S i → ∃ l, BL w i 42 l) : rStpQ w' cs x := by
 obtain ⟨⟨A0, n0, c0, A1, n1, c1, rfl, h0, h1, r⟩, h2⟩ := h
 have ns : ∀ (A : Option Addr) (n c : Nat), Value.slice A n c ∈ [Value.int .i64 x.kind, .slice A0 n0 c0, .string (strB x.pc.1), .int .i64 x.pc.2, .slice A1 n1 c1] → ∀ a, A = some a → ¬ S a.block := fun A n c hm a ha hS => by
  obtain ⟨t, l, hb, ht⟩ := h2 A n c hm a ha
  obtain ⟨l', hb'⟩ := hs _ hb.lt hS
  exact ht (hb.ty hb')
 refine ⟨⟨A0, n0, c0, A1, n1, c1, rfl, h0.kpn (fun _ _ h => h) hk (ns A0 n0 c0 (by simp)), h1.kpn (fun _ _ h => h) hk (ns A1 n1 c1 (by simp)), r⟩, fun A n c hm a ha => ?_⟩
 obtain ⟨t, l, hb, ht⟩ := h2 A n c hm a ha
 exact ⟨t, l, hk.bl hb (ns A n c hm a ha), ht⟩
theorem rStpQ.kept {w w' : World} {cs : List Value} {x : Stp} (h : rStpQ w cs x) (hb : Below w.heap.size w w') : rStpQ w' cs x := h.kp (S := fun _ => False) (Kp.of_below hb) (fun _ _ h => h.elim)
theorem SQ.stpT {base w : World} {gs k1 C1 k2 C2 : Nat} {kd : Int} {A1 A2 : Option Addr} {I : List (List UInt8)} {R : List Rf} (h : SQ base w gs kd A1 k1 C1 A2 k2 C2 I R) (hb : Below base.heap.size base w) (h1 : I.length * 16 ≤ lim) (h2 : R.length * 32 ≤ lim) (hk : wfI kd) : rStpQ w (sbC kd A1 k1 C1 A2 k2 C2) ⟨kd, I, ([], 0), R⟩ := by
 refine ⟨h.stp hb h1 h2 hk, fun A n c hm a ha => ?_⟩
 obtain ⟨_, r1⟩ := h.s.row
 obtain ⟨_, r2⟩ := h.r.row
 simp only [List.mem_cons, List.not_mem_nil, or_false, Value.slice.injEq, reduceCtorEq, false_or] at hm
 rcases hm with ⟨rfl, rfl, rfl⟩ | ⟨rfl, rfl, rfl⟩
 ·
  obtain ⟨cs, hb⟩ := r1.tyb ha
  exact ⟨_, _, hb, by decide⟩
 ·
  obtain ⟨cs, hb⟩ := r2.tyb ha
  exact ⟨_, _, hb, by decide⟩

section
variable {base w w' w9 : World} {gs k1 C1 k2 C2 : Nat} {kd : Int} {A1 A2 : Option Addr} {I : List (List UInt8)} {R : List Rf}
theorem SQ.kp (h : SQ base w gs kd A1 k1 C1 A2 k2 C2 I R) {S : Nat → Prop} (hk : Kp S w w') (hg : ¬ S gs) (h1 : ∀ b, (Value.slice A1 k1 C1).ownBlock = some b → ¬ S b) (h2 : ∀ b, (Value.slice A2 k2 C2).ownBlock = some b → ¬ S b) : SQ base w' gs kd A1 k1 C1 A2 k2 C2 I R := ⟨hk.bl h.blk hg, h.s.kp hk h1, h.r.kp hk h2⟩
end
/-- The two steps that the reference builds. -/
structure FR (base w : World) (gf gr : Nat) (A1 : Option Addr) (k1 C1 : Nat) (A2 : Option Addr) (k2 C2 : Nat) (A3 : Option Addr) (k3 C3 : Nat) (I J : List (List UInt8)) (R : List Rf) : Prop where
 f : SQ base w gf 4 A1 k1 C1 none 0 0 I []
 r : SQ base w gr 1 A2 k2 C2 A3 k3 C3 J R
 ne : gf ≠ gr
 nes : ∀ b, (Value.slice A1 k1 C1).ownBlock = some b → ¬ (Value.slice A2 k2 C2).ownBlock = some b
section
variable {base w w' w9 : World} {gf gr k1 C1 k2 C2 k3 C3 : Nat} {A1 A2 A3 : Option Addr} {I J : List (List UInt8)} {R : List Rf}
theorem FR.kept (h : FR base w gf gr A1 k1 C1 A2 k2 C2 A3 k3 C3 I J R) (hb : Below w.heap.size w w') : FR base w' gf gr A1 k1 C1 A2 k2 C2 A3 k3 C3 I J R := ⟨h.f.kept hb, h.r.kept hb, h.ne, h.nes⟩
theorem SQ.ne_own {gs : Nat} {kd : Int} (h : SQ base w gs kd A1 k1 C1 A2 k2 C2 J R) {gx : Nat} {l : List Value} (hb : BL w gx 42 l) : (∀ b, (Value.slice A1 k1 C1).ownBlock = some b → ¬ b = gx) ∧ (∀ b, (Value.slice A2 k2 C2).ownBlock = some b → ¬ b = gx) := by
 obtain ⟨_, r1⟩ := h.s.row
 obtain ⟨_, r2⟩ := h.r.row
 exact ⟨fun b hb' e => r1.ne_bl hb (by decide) b hb' e, fun b hb' e => r2.ne_bl hb (by decide) b hb' e⟩
/-- A name and its refs pushed to what is rewritten. -/
theorem FR.pushR (h : FR base w gf gr A1 k1 C1 A2 k2 C2 A3 k3 C3 I J R) (hw : base.heap.size ≤ w.heap.size) {css : List (List Value)} (hl : css.length = J.length) (h2 : ∀ cs ∈ css, cs.length = 1) (h3 : ∀ k (h : k < J.length) (h' : k < css.length), rStr base css[k] J[k]) (h5 : ∀ b, (Value.slice A2 k2 C2).ownBlock = some b → base.heap.size ≤ b)
  (hrw : RW w 9 1 (.slice A2 k2 C2) k2 css.flatten) {r : List UInt8} (hr : r.length ≤ reachBytes) {A' : Option Addr} {C' : Nat} (ap : AppR w 9 1 (.slice A2 k2 C2) k2 1 css.flatten [.string (strB r)] (.slice A' (k2 + 1) C') w9) (hb : BL w' gr 42 (sbC 1 A' (k2 + 1) C' A3 k3 C3)) (hk : Kp (· = gr) w9 w') :
  FR base w' gf gr A1 k1 C1 A' (k2 + 1) C' A3 k3 C3 I (J ++ [r]) R := by
 have hg9 : BL w9 gr 42 _ := ap.bl hrw h.r.blk (by decide)
 have f9 : SQ base w9 gf 4 A1 k1 C1 none 0 0 I [] := h.f.kp ap.kp (fun e => hrw.ne_bl h.f.blk (by decide) gf e rfl) (fun b e1 e2 => h.nes b e1 e2) (fun b e1 e2 => by cases e1)
 obtain ⟨n1, n2⟩ := f9.ne_own hg9
 refine ⟨f9.kp hk (fun e => h.ne e) n1 n2, h.r.pushS hw hl h2 h3 h5 hrw hr ap hb hk, h.ne, fun b e1 e2 => ?_⟩
 rcases ap.own b e2 with h9 | h9
 ·
  exact h.nes b e1 h9
 ·
  obtain ⟨_, r1⟩ := h.f.s.row
  have := r1.lt e1
  omega
end
end Go.Proofs.Ytboglaokdgnpaaa
/- The law's step, steps, wide. -/
namespace Go.Proofs.Ytboglaokdgnpaaa
open Go Go.RowKit Gf Sha

theorem bldStep (a : Int) (A0 : Option Addr) (n0 c0 : Nat) (s : ByteArray) (i : Int) (A1 : Option Addr) (n1 c1 : Nat) (w : World) : (Instr.build 44 #[(0, .int .i64 a), (1, .slice A0 n0 c0), (2, .agg [.string s, .int .i64 i].toArray), (3, .slice A1 n1 c1)]).run Try.prog w = .ok (.agg [.int .i64 a, .slice A0 n0 c0, .string s, .int .i64 i, .slice A1 n1 c1].toArray) w := by kernel_rfl
set_option maxRecDepth 100000 in
set_option maxHeartbeats 1000000 in
theorem step_any (cs : List Value) (y : Stp) (w : World) (h : rStp w cs y) :
  Calls Try.prog 19 #[.agg cs.toArray] w fun e w' => e = .returned (.agg cs.toArray) ∧ Below w.heap.size w w' := by
 obtain ⟨A0, n0, c0, A1, n1, c1, rfl, _⟩ := h
 go_enter Try.func19, Try.ntmps19
 go_wp2_with (first
  | ((with_reducible show OpW 1); refine wpList_box _ rfl 42 (.tmp 0) rfl (stC y A0 n0 c0 A1 n1 c1) rfl ?_; intro w1 y1 y2 y3; have HB1 := Lib.hid y2; have HS1 := Lib.hid y1; clear y1 y2 y3)
  | ((with_reducible show OpW 2); refine wpList_alloc _ rfl 44 rfl stpZ stpZero ?_; intro w2 y1 y2 y3; have HR2 := Lib.hid y1; have HB2 := Lib.hid (below_then HB1.out y2); have HS2 := Lib.hid (HS1.out.kept y2); have hs := HS1.out.kept y2; have q0 := hs.get (j := 0) rfl; have q1 := hs.get (j := 1) rfl; have q4 := hs.get (j := 4) rfl; have HG := Lib.hid HB1.out.size; clear y1 y2 y3 hs)
  | ((with_reducible show OpW 8); refine wpList_loadv _ rfl 39 (.tmp 7) rfl 2 (by kernel_rfl) w.heap.size 2 (pcL y.pc) rfl (at_two (BL.all HS2.out)) rfl ?_)
  | ((with_reducible show OpW 11); refine wpList_build _ rfl 44 #[(0, .tmp 4), (1, .tmp 6), (2, .tmp 8), (3, .tmp 10)] rfl #[(0, .int .i64 y.kind), (1, .slice A0 n0 c0), (2, .agg (pcL y.pc).toArray), (3, .slice A1 n1 c1)] (by rw [List.map_toArray]; rfl) (.agg (stC y A0 n0 c0 A1 n1 c1).toArray) (bldStep _ _ _ _ _ _ _ _ _ _) ?_)
  | ((with_reducible show OpN); refine wpList_storev _ rfl 44 (.tmp 2) (.tmp 11) rfl 5 (by kernel_rfl) w1.heap.size 0 _ stpZ (stC y A0 n0 c0 A1 n1 c1) rfl rfl HR2.out rfl (one_val _ rfl) (by decide) ?_; intro w3 y1 y2 y3; have HT3 : Hid (BL w3 w1.heap.size 44 (stC y A0 n0 c0 A1 n1 c1)) := Lib.hid y1; have HK3 := Lib.hid y2; clear y1 y2 y3))
 (try simp only [Exit.inBlock, Exit.then])
 exact bodyPost_ret (results_at w3 Try.results19 (n := 5) (by kernel_rfl) (g := w1.heap.size) (o := 0) rfl (ms := stC y A0 n0 c0 A1 n1 c1) (BL.all HT3.out) rfl) rfl ⟨rfl, ((Kp.of_below (S := fun _ => False) HB2.out).after HK3.out (fun i hi e => by have := HG.out; omega)).below (Nat.le_refl _) (fun _ h => h.elim)⟩
def wideS (y : Stp) : Bool := decide (40 < y.sts.length) || decide (40 < y.refs.length)
def wideB (l : List Stp) : Bool := l.any wideS || decide (40 < l.length)
theorem wide_no {l : List Stp} (h : wideB l = false) : l.length ≤ 40 ∧ ∀ y ∈ l, y.sts.length ≤ 40 ∧ y.refs.length ≤ 40 := by
 simp only [wideB, Bool.or_eq_false_iff, decide_eq_false_iff_not] at h
 refine ⟨by omega, fun y hy => ?_⟩
 have := List.any_eq_false.1 h.1 y hy
 simp only [wideS, Bool.or_eq_true, decide_eq_true_eq, not_or] at this
 omega
set_option maxRecDepth 100000 in
set_option maxHeartbeats 2000000 in
theorem wide_any (A : Option Addr) (n c : Nat) (l : List Stp) (w : World) (h : LS rStp 5 80 w A n c l) :
  Calls Try.prog 17 #[.slice A n c] w fun e w' => e = .returned (.bool (wideB l)) ∧ Below w.heap.size w w' := by
 have hn := h.len_le
 have H := Lib.hid h
 have HL := Lib.hid h.1
 clear h
 go_enter Try.func17, Try.ntmps17
 go_wp2_with fail
 go_loopw [7] (fun iv wr => ∃ k : Nat, k ≤ n ∧ iv = .int .i64 (k : Int) ∧ Hid ((l.take k).any wideS = false) ∧ Hid (Below w.heap.size w wr)) (fun iv _ => n - (intOf iv).toNat)
 case atStart => exact ⟨0, by omega, rfl, Lib.hid rfl, Lib.hid (Below.refl _ _)⟩
 case round =>
  obtain ⟨k, hk, rfl, hall, hb⟩ := hrel
  obtain ⟨wx, hwx⟩ : ∃ x, x = wr := ⟨_, rfl⟩
  rw [← hwx] at hb ⊢
  clear hwx
  by_cases hlt : k < n
  ·
   obtain ⟨t, g, o, cs, hs, ea, hat, hrt⟩ := H.out.at_ stay_stp (Below.refl _ _) hlt
   obtain ⟨B0, p0, e0, B1, p1, e1, rfl, hl0, hl1, _⟩ := hrt
   have HP0 := Lib.hid hl0.1
   have HP1 := Lib.hid hl1.1
   have HX := Lib.hid hs
   have HA := Lib.hid (hat.kept hb.out)
   subst ea
   clear hs hat hl0 hl1
   by_cases h0 : 40 < p0
   ·
    have d1 : decide ((40 : Int) < (p0 : Int)) = true := decide_eq_true (by omega)
    have d2 : decide (40 < p0) = true := decide_eq_true h0
    have HR : Hid (wideB l = true) := Lib.hid (by rw [wideB, any_hit HX.out (by rw [wideS, HP0.out, d2]; rfl)]; rfl)
    clear h0
    go_wp2_with (first
     | ((with_reducible show OpW 10); refine wpList_loadv _ rfl 42 (.tmp 9) rfl 5 (by kernel_rfl) g (o + k * 5) (stC t B0 p0 e0 B1 p1 e1) (by go_simp) HA.out rfl ?_)
     | ((with_reducible show OpW 4); refine wpList_alloc _ rfl 42 rfl stpZ stqZero ?_; intro w3 a1 a2 a3; have HV3 := Lib.hid a1; have HX3 := Lib.hid a2; clear a1 a2 a3)
     | ((with_reducible show OpN); refine wpList_storev _ rfl 42 (.tmp 4) (.tmp 10) rfl 5 (by kernel_rfl) wx.heap.size 0 _ stpZ (stC t B0 p0 e0 B1 p1 e1) rfl rfl HV3.out rfl (one_val _ rfl) (by decide) ?_; intro w4 a1 a2 a3; have HV4 : Hid (BL w4 wx.heap.size 42 (stC t B0 p0 e0 B1 p1 e1)) := Lib.hid a1; have HX4 : Hid (Below wx.heap.size wx w4) := Lib.hid (((Kp.of_below (S := fun _ => False) HX3.out).after a2 (fun i hi e => by omega)).below (Nat.le_refl _) (fun _ h => h.elim)); clear a1 a2 a3; have r1 := HV4.out.get (j := 1) rfl; have r4 := HV4.out.get (j := 4) rfl)
     | fail)
    go_ret
    exact ⟨ret_bool HR.out.symm, below_thenB hb.out hb.out.size HX4.out⟩
   have d1 : decide ((40 : Int) < (p0 : Int)) = false := decide_eq_false (by omega)
   have d2 : decide (40 < p0) = false := decide_eq_false h0
   by_cases h1 : 40 < p1
   ·
    have d3 : decide ((40 : Int) < (p1 : Int)) = true := decide_eq_true (by omega)
    have d4 : decide (40 < p1) = true := decide_eq_true h1
    have HR : Hid (wideB l = true) := Lib.hid (by rw [wideB, any_hit HX.out (by rw [wideS, HP0.out, HP1.out, d2, d4]; rfl)]; rfl)
    clear h0 h1
    go_wp2_with (first
     | ((with_reducible show OpW 10); refine wpList_loadv _ rfl 42 (.tmp 9) rfl 5 (by kernel_rfl) g (o + k * 5) (stC t B0 p0 e0 B1 p1 e1) (by go_simp) HA.out rfl ?_)
     | ((with_reducible show OpW 4); refine wpList_alloc _ rfl 42 rfl stpZ stqZero ?_; intro w3 a1 a2 a3; have HV3 := Lib.hid a1; have HX3 := Lib.hid a2; clear a1 a2 a3)
     | ((with_reducible show OpN); refine wpList_storev _ rfl 42 (.tmp 4) (.tmp 10) rfl 5 (by kernel_rfl) wx.heap.size 0 _ stpZ (stC t B0 p0 e0 B1 p1 e1) rfl rfl HV3.out rfl (one_val _ rfl) (by decide) ?_; intro w4 a1 a2 a3; have HV4 : Hid (BL w4 wx.heap.size 42 (stC t B0 p0 e0 B1 p1 e1)) := Lib.hid a1; have HX4 : Hid (Below wx.heap.size wx w4) := Lib.hid (((Kp.of_below (S := fun _ => False) HX3.out).after a2 (fun i hi e => by omega)).below (Nat.le_refl _) (fun _ h => h.elim)); clear a1 a2 a3; have r1 := HV4.out.get (j := 1) rfl; have r4 := HV4.out.get (j := 4) rfl)
     | fail)
    go_ret
    exact ⟨ret_bool HR.out.symm, below_thenB hb.out hb.out.size HX4.out⟩
   ·
    have d3 : decide ((40 : Int) < (p1 : Int)) = false := decide_eq_false (by omega)
    have d4 : decide (40 < p1) = false := decide_eq_false h1
    have HR : Hid ((l.take (k + 1)).any wideS = false) := Lib.hid (any_step HX.out hall.out (by rw [wideS, HP0.out, HP1.out, d2, d4]; rfl))
    clear h0 h1
    go_wp2_with (first
     | ((with_reducible show OpW 10); refine wpList_loadv _ rfl 42 (.tmp 9) rfl 5 (by kernel_rfl) g (o + k * 5) (stC t B0 p0 e0 B1 p1 e1) (by go_simp) HA.out rfl ?_)
     | ((with_reducible show OpW 4); refine wpList_alloc _ rfl 42 rfl stpZ stqZero ?_; intro w3 a1 a2 a3; have HV3 := Lib.hid a1; have HX3 := Lib.hid a2; clear a1 a2 a3)
     | ((with_reducible show OpN); refine wpList_storev _ rfl 42 (.tmp 4) (.tmp 10) rfl 5 (by kernel_rfl) wx.heap.size 0 _ stpZ (stC t B0 p0 e0 B1 p1 e1) rfl rfl HV3.out rfl (one_val _ rfl) (by decide) ?_; intro w4 a1 a2 a3; have HV4 : Hid (BL w4 wx.heap.size 42 (stC t B0 p0 e0 B1 p1 e1)) := Lib.hid a1; have HX4 : Hid (Below wx.heap.size wx w4) := Lib.hid (((Kp.of_below (S := fun _ => False) HX3.out).after a2 (fun i hi e => by omega)).below (Nat.le_refl _) (fun _ h => h.elim)); clear a1 a2 a3; have r1 := HV4.out.get (j := 1) rfl; have r4 := HV4.out.get (j := 4) rfl)
     | fail)
    go_roundw
    case rel => exact ⟨k + 1, by omega, by go_num, HR, Lib.hid (below_thenB hb.out hb.out.size HX4.out)⟩
    case measure => simp [intOf]; omega
  ·
   obtain rfl : k = n := by omega
   have HR : Hid (wideB l = decide (40 < k)) := Lib.hid (by have h9 := hall.out; rw [take_end HL.out] at h9; rw [wideB, h9, HL.out]; rfl)
   by_cases h0 : 40 < k
   ·
    have d1 : decide ((40 : Int) < (k : Int)) = true := decide_eq_true (by omega)
    have d2 : decide (40 < k) = true := decide_eq_true h0
    go_wp2_with fail
    go_ret
    exact ⟨ret_bool (by rw [HR.out, d2]), hb.out⟩
   ·
    have d1 : decide ((40 : Int) < (k : Int)) = false := decide_eq_false (by omega)
    have d2 : decide (40 < k) = false := decide_eq_false h0
    go_wp2_with fail
    go_ret
    exact ⟨ret_bool (by rw [HR.out, d2]), hb.out⟩
end Go.Proofs.Ytboglaokdgnpaaa
