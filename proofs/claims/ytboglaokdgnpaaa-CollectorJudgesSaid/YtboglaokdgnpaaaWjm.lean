/- The reference's step under construction. (Printed by gen_wj.py.) -/
import Derived.Test.YtboglaokdgnpaaaA24
import Derived.Test.YtboglaokdgnpaaaA26
namespace Go.Proofs.Ytboglaokdgnpaaa
open Go Go.RowKit Gf Sha

theorem stqZero : (Try.prog.info? 42).map (·.zero) = some (some (.agg stpZ.toArray)) := by kernel_rfl
/-- A step under construction in block gs. -/
structure SQ (base w : World) (gs : Nat) (kd : Int) (A1 : Option Addr) (k1 C1 : Nat) (A2 : Option Addr) (k2 C2 : Nat) (I : List (List UInt8)) (R : List Rf) : Prop where
 blk : BL w gs 42 (sbC kd A1 k1 C1 A2 k2 C2)
 s : OL rStr 1 9 base w (.slice A1 k1 C1) I
 r : OL rRf 3 73 base w (.slice A2 k2 C2) R
section
variable {base w w' w9 : World} {gs k1 C1 k2 C2 : Nat} {kd : Int} {A1 A2 : Option Addr} {I : List (List UInt8)} {R : List Rf}
theorem SQ.kept (h : SQ base w gs kd A1 k1 C1 A2 k2 C2 I R) (hb : Below w.heap.size w w') : SQ base w' gs kd A1 k1 C1 A2 k2 C2 I R := ⟨h.blk.kept hb, h.s.kept hb, h.r.kept hb⟩
/-- A ref pushed. -/
theorem SQ.pushR (h : SQ base w gs kd A1 k1 C1 A2 k2 C2 I R) (hw : base.heap.size ≤ w.heap.size) {css : List (List Value)} (hl : css.length = R.length) (h2 : ∀ cs ∈ css, cs.length = 3) (h3 : ∀ k (h : k < R.length) (h' : k < css.length), rRf base css[k] R[k]) (h5 : ∀ b, (Value.slice A2 k2 C2).ownBlock = some b → base.heap.size ≤ b)
  (hrw : RW w 73 3 (.slice A2 k2 C2) k2 css.flatten) {r : Rf} (hr : okRf r) {A' : Option Addr} {C' : Nat} (ap : AppR w 73 3 (.slice A2 k2 C2) k2 1 css.flatten (rfL r) (.slice A' (k2 + 1) C') w9) (hb : BL w' gs 42 (sbC kd A1 k1 C1 A' (k2 + 1) C')) (hk : Kp (· = gs) w9 w') :
  SQ base w' gs kd A1 k1 C1 A' (k2 + 1) C' I (R ++ [r]) := by
 have hg9 : BL w9 gs 42 _ := ap.bl hrw h.blk (by decide)
 have hs : ∀ b, (Value.slice A1 k1 C1).ownBlock = some b → ¬ (Value.slice A2 k2 C2).ownBlock = some b := fun b h1 h2 => by
  obtain ⟨_, h4⟩ := h.s.row
  obtain ⟨cs', h5⟩ := h4.ty h1
  exact hrw.ne_bl h5 (by decide) b h2 rfl
 have hs9 : OL rStr 1 9 base w9 (.slice A1 k1 C1) I := h.s.kp ap.kp hs
 have hr9 : OL rRf 3 73 base w9 (.slice A' (k2 + 1) C') (R ++ [r]) := OL.push hl h2 h3 h5 h.r.len rfl ⟨rfl, hr⟩ hw ap
 obtain ⟨_, r1⟩ := hs9.row
 obtain ⟨_, r2⟩ := hr9.row
 exact ⟨hb, hs9.kp hk (fun b hb' e => r1.ne_bl hg9 (by decide) b hb' e), hr9.kp hk (fun b hb' e => r2.ne_bl hg9 (by decide) b hb' e)⟩
/-- A name pushed. -/
theorem SQ.pushS (h : SQ base w gs kd A1 k1 C1 A2 k2 C2 I R) (hw : base.heap.size ≤ w.heap.size) {css : List (List Value)} (hl : css.length = I.length) (h2 : ∀ cs ∈ css, cs.length = 1) (h3 : ∀ k (h : k < I.length) (h' : k < css.length), rStr base css[k] I[k]) (h5 : ∀ b, (Value.slice A1 k1 C1).ownBlock = some b → base.heap.size ≤ b)
  (hrw : RW w 9 1 (.slice A1 k1 C1) k1 css.flatten) {r : List UInt8} (hr : r.length ≤ reachBytes) {A' : Option Addr} {C' : Nat} (ap : AppR w 9 1 (.slice A1 k1 C1) k1 1 css.flatten [.string (strB r)] (.slice A' (k1 + 1) C') w9) (hb : BL w' gs 42 (sbC kd A' (k1 + 1) C' A2 k2 C2)) (hk : Kp (· = gs) w9 w') :
  SQ base w' gs kd A' (k1 + 1) C' A2 k2 C2 (I ++ [r]) R := by
 have hg9 : BL w9 gs 42 _ := ap.bl hrw h.blk (by decide)
 have hs : ∀ b, (Value.slice A2 k2 C2).ownBlock = some b → ¬ (Value.slice A1 k1 C1).ownBlock = some b := fun b h1 h2 => by
  obtain ⟨_, h4⟩ := h.r.row
  obtain ⟨cs', h5⟩ := h4.ty h1
  exact hrw.ne_bl h5 (by decide) b h2 rfl
 have hs9 : OL rRf 3 73 base w9 (.slice A2 k2 C2) R := h.r.kp ap.kp hs
 have hr9 : OL rStr 1 9 base w9 (.slice A' (k1 + 1) C') (I ++ [r]) := OL.push hl h2 h3 h5 h.s.len rfl ⟨rfl, hr⟩ hw ap
 obtain ⟨_, r1⟩ := hs9.row
 obtain ⟨_, r2⟩ := hr9.row
 exact ⟨hb, hr9.kp hk (fun b hb' e => r2.ne_bl hg9 (by decide) b hb' e), hs9.kp hk (fun b hb' e => r1.ne_bl hg9 (by decide) b hb' e)⟩
/-- The step is built: it reads. -/
theorem SQ.stp (h : SQ base w gs kd A1 k1 C1 A2 k2 C2 I R) (hb : Below base.heap.size base w) (h1 : I.length * 16 ≤ lim) (h2 : R.length * 32 ≤ lim) (hk : wfI kd) : rStp w (sbC kd A1 k1 C1 A2 k2 C2) ⟨kd, I, ([], 0), R⟩ := by
 obtain ⟨A, c, e, l1⟩ := h.s.ls (b := 16) stay_str hb h1
 obtain ⟨A', c', e', l2⟩ := h.r.ls (b := 32) stay_rf hb h2
 cases e
 cases e'
 exact ⟨A1, _, C1, A2, _, C2, rfl, l1, l2, hk, Nat.zero_le _, rfl⟩
end
/-- A step whose lists lie in blocks of other types than steps. -/
def rStpQ : Rdg Stp := fun w cs x => rStp w cs x ∧ ∀ (A : Option Addr) (n c : Nat), Value.slice A n c ∈ cs → ∀ a, A = some a → ∃ t l, BL w a.block t l ∧ t ≠ 42
theorem rStpQ.kp {w w' : World} {cs : List Value} {x : Stp} (h : rStpQ w cs x) {S : Nat → Prop} (hk : Kp S w w') (hs : ∀ i, i < w.heap.size → S i → ∃ l, BL w i 42 l) : rStpQ w' cs x := by
 obtain ⟨⟨A0, n0, c0, A1, n1, c1, rfl, h0, h1, r⟩, h2⟩ := h
 have ns : ∀ (A : Option Addr) (n c : Nat), Value.slice A n c ∈ [Value.int .i64 x.kind, .slice A0 n0 c0, .string (strB x.pc.1), .int .i64 x.pc.2, .slice A1 n1 c1] → ∀ a, A = some a → ¬ S a.block := fun A n c hm a ha hS => by
  obtain ⟨t, l, hb, ht⟩ := h2 A n c hm a ha
  obtain ⟨l', hb'⟩ := hs _ hb.lt hS
  exact ht (hb.ty hb')
 refine ⟨⟨A0, n0, c0, A1, n1, c1, rfl, h0.kpn (fun _ _ h => h) hk (ns A0 n0 c0 (by simp)), h1.kpn (fun _ _ h => h) hk (ns A1 n1 c1 (by simp)), r⟩, fun A n c hm a ha => ?_⟩
 obtain ⟨t, l, hb, ht⟩ := h2 A n c hm a ha
 exact ⟨t, l, hk.bl hb (ns A n c hm a ha), ht⟩
theorem rStpQ.kept {w w' : World} {cs : List Value} {x : Stp} (h : rStpQ w cs x) (hb : Below w.heap.size w w') : rStpQ w' cs x := h.kp (S := fun _ => False) (Kp.of_below hb) (fun _ _ h => h.elim)
theorem SQ.stpT {base w : World} {gs k1 C1 k2 C2 : Nat} {kd : Int} {A1 A2 : Option Addr} {I : List (List UInt8)} {R : List Rf} (h : SQ base w gs kd A1 k1 C1 A2 k2 C2 I R) (hb : Below base.heap.size base w) (h1 : I.length * 16 ≤ lim) (h2 : R.length * 32 ≤ lim) (hk : wfI kd) : rStpQ w (sbC kd A1 k1 C1 A2 k2 C2) ⟨kd, I, ([], 0), R⟩ := by
 refine ⟨h.stp hb h1 h2 hk, fun A n c hm a ha => ?_⟩
 obtain ⟨_, r1⟩ := h.s.row
 obtain ⟨_, r2⟩ := h.r.row
 simp only [List.mem_cons, List.not_mem_nil, or_false, Value.slice.injEq, reduceCtorEq, false_or] at hm
 rcases hm with ⟨rfl, rfl, rfl⟩ | ⟨rfl, rfl, rfl⟩
 ·
  obtain ⟨cs, hb⟩ := r1.tyb ha
  exact ⟨_, _, hb, by decide⟩
 ·
  obtain ⟨cs, hb⟩ := r2.tyb ha
  exact ⟨_, _, hb, by decide⟩

theorem rDel_stpQ {w0 w : World} {cs : List Value} {y : Stp} (h : rDel w0 cs y) : rStpQ w cs y := by
 obtain ⟨rfl, e, h3⟩ := h
 rw [e]
 refine ⟨⟨none, 0, 0, none, 0, 0, rfl, LS.nil, LS.nil, rfl, h3⟩, fun A n c hm a ha => ?_⟩
 simp only [delC, List.mem_cons, List.not_mem_nil, or_false, Value.slice.injEq, reduceCtorEq, false_or] at hm
 rcases hm with ⟨rfl, _⟩ | ⟨rfl, _⟩ <;> cases ha
theorem infoStq : (Try.prog.info? 42).map (fun i => (i.zero, i.size, i.bytes)) = some (some (.agg stpZ.toArray), 5, 80) := by kernel_rfl
theorem bldDelQ (p : Pc) (w : World) : (Instr.build 42 #[(0, .int .i64 3), (2, .agg (pcL p).toArray)]).run Try.prog w = .ok (.agg (delC p).toArray) w := by kernel_rfl
theorem bldK (z : Int) (w : World) : (Instr.build 42 #[(0, .int .i64 z)]).run Try.prog w = .ok (.agg (sbC z none 0 0 none 0 0).toArray) w := by kernel_rfl
theorem bldG (A : Option Addr) (n c : Nat) (w : World) : (Instr.build 42 #[(0, .int .i64 2), (1, .slice A n c)]).run Try.prog w = .ok (.agg (sbC 2 A n c none 0 0).toArray) w := by kernel_rfl
theorem bslStq (a : Int) (A0 : Option Addr) (n0 c0 : Nat) (s : ByteArray) (i : Int) (A1 : Option Addr) (n1 c1 : Nat) (w : World) : (Instr.buildSlice 35 1 #[(0, .agg [.int .i64 a, .slice A0 n0 c0, .string s, .int .i64 i, .slice A1 n1 c1].toArray)]).run Try.prog w = .ok (.slice (some ⟨w.heap.size, 0, none⟩) 1 1) (w.alloc (.cells [.int .i64 a, .slice A0 n0 c0, .string s, .int .i64 i, .slice A1 n1 c1].toArray 42)) := by kernel_rfl
/-- A list of steps grows by one whose lists lie elsewhere. -/
theorem OLn.pushQ {base n : Nat} {w w' : World} {v v' : Value} {L : List Stp} (h : OLn rStpQ 5 42 base w v L) (hn : L.length = n) {x : Stp} {xs : List Value} (hxs : xs.length = 5) (hx : rStpQ w xs x) (hw : base ≤ w.heap.size) {css : List (List Value)} (hl : css.length = L.length) (h2 : ∀ cs ∈ css, cs.length = 5) (h3 : ∀ w', Kp (fun b => v.ownBlock = some b) w w' → ∀ k (h : k < L.length) (h' : k < css.length), rStpQ w' css[k] L[k]) (h5 : ∀ b, v.ownBlock = some b → base ≤ b)
  (ap : AppR w 42 5 v n 1 css.flatten xs v' w') : OLn rStpQ 5 42 base w' v' (L ++ [x]) := by
 refine OLn.push hl h2 h3 h5 hn hxs (fun w'' hk => ?_) hw ap
 obtain ⟨css', _, _, _, h4, _⟩ := h
 exact hx.kp hk (fun i hi e => by obtain ⟨cs, hb⟩ := h4.ty e; exact ⟨cs, hb⟩)

section
variable {base w w' w9 : World} {gs k1 C1 k2 C2 : Nat} {kd : Int} {A1 A2 : Option Addr} {I : List (List UInt8)} {R : List Rf}
theorem SQ.kp (h : SQ base w gs kd A1 k1 C1 A2 k2 C2 I R) {S : Nat → Prop} (hk : Kp S w w') (hg : ¬ S gs) (h1 : ∀ b, (Value.slice A1 k1 C1).ownBlock = some b → ¬ S b) (h2 : ∀ b, (Value.slice A2 k2 C2).ownBlock = some b → ¬ S b) : SQ base w' gs kd A1 k1 C1 A2 k2 C2 I R := ⟨hk.bl h.blk hg, h.s.kp hk h1, h.r.kp hk h2⟩
/-- Refs pushed, a whole list of them. -/
theorem SQ.pushRs (h : SQ base w gs kd A1 k1 C1 A2 k2 C2 I R) (hw : base.heap.size ≤ w.heap.size) {css : List (List Value)} (hl : css.length = R.length) (h2 : ∀ cs ∈ css, cs.length = 3) (h3 : ∀ k (h : k < R.length) (h' : k < css.length), rRf base css[k] R[k]) (h5 : ∀ b, (Value.slice A2 k2 C2).ownBlock = some b → base.heap.size ≤ b)
  (hrw : RW w 73 3 (.slice A2 k2 C2) k2 css.flatten) {M : List Rf} {m : Nat} {dss : List (List Value)} (kl : dss.length = M.length) (kk : ∀ cs ∈ dss, cs.length = 3) (k3 : ∀ k (h : k < M.length) (h' : k < dss.length), rRf base dss[k] M[k]) (km : M.length = m) {A' : Option Addr} {C' : Nat} (ap : AppR w 73 3 (.slice A2 k2 C2) k2 m css.flatten dss.flatten (.slice A' (k2 + m) C') w9) (hb : BL w' gs 42 (sbC kd A1 k1 C1 A' (k2 + m) C')) (hk : Kp (· = gs) w9 w') :
  SQ base w' gs kd A1 k1 C1 A' (k2 + m) C' I (R ++ M) := by
 have hg9 : BL w9 gs 42 _ := ap.bl hrw h.blk (by decide)
 have hs : ∀ b, (Value.slice A1 k1 C1).ownBlock = some b → ¬ (Value.slice A2 k2 C2).ownBlock = some b := fun b h1 h2 => by
  obtain ⟨_, h4⟩ := h.s.row
  obtain ⟨cs', h5⟩ := h4.ty h1
  exact hrw.ne_bl h5 (by decide) b h2 rfl
 have hs9 : OL rStr 1 9 base w9 (.slice A1 k1 C1) I := h.s.kp ap.kp hs
 have hr9 : OL rRf 3 73 base w9 (.slice A' (k2 + m) C') (R ++ M) := OL.app hl h2 h3 h5 h.r.len kl kk k3 km hw ap
 obtain ⟨_, r1⟩ := hs9.row
 obtain ⟨_, r2⟩ := hr9.row
 exact ⟨hb, hs9.kp hk (fun b hb' e => r1.ne_bl hg9 (by decide) b hb' e), hr9.kp hk (fun b hb' e => r2.ne_bl hg9 (by decide) b hb' e)⟩
end
/-- The two steps that the reference builds. -/
structure FR (base w : World) (gf gr : Nat) (A1 : Option Addr) (k1 C1 : Nat) (A2 : Option Addr) (k2 C2 : Nat) (A3 : Option Addr) (k3 C3 : Nat) (I J : List (List UInt8)) (R : List Rf) : Prop where
 f : SQ base w gf 4 A1 k1 C1 none 0 0 I []
 r : SQ base w gr 1 A2 k2 C2 A3 k3 C3 J R
 ne : gf ≠ gr
 nes : ∀ b, (Value.slice A1 k1 C1).ownBlock = some b → ¬ (Value.slice A2 k2 C2).ownBlock = some b
section
variable {base w w' w9 : World} {gf gr k1 C1 k2 C2 k3 C3 : Nat} {A1 A2 A3 : Option Addr} {I J : List (List UInt8)} {R : List Rf}
theorem FR.kept (h : FR base w gf gr A1 k1 C1 A2 k2 C2 A3 k3 C3 I J R) (hb : Below w.heap.size w w') : FR base w' gf gr A1 k1 C1 A2 k2 C2 A3 k3 C3 I J R := ⟨h.f.kept hb, h.r.kept hb, h.ne, h.nes⟩
theorem SQ.ne_own {gs : Nat} {kd : Int} (h : SQ base w gs kd A1 k1 C1 A2 k2 C2 J R) {gx : Nat} {l : List Value} (hb : BL w gx 42 l) : (∀ b, (Value.slice A1 k1 C1).ownBlock = some b → ¬ b = gx) ∧ (∀ b, (Value.slice A2 k2 C2).ownBlock = some b → ¬ b = gx) := by
 obtain ⟨_, r1⟩ := h.s.row
 obtain ⟨_, r2⟩ := h.r.row
 exact ⟨fun b hb' e => r1.ne_bl hb (by decide) b hb' e, fun b hb' e => r2.ne_bl hb (by decide) b hb' e⟩
/-- A name pushed to what is forgotten. -/
theorem FR.pushF (h : FR base w gf gr A1 k1 C1 A2 k2 C2 A3 k3 C3 I J R) (hw : base.heap.size ≤ w.heap.size) {css : List (List Value)} (hl : css.length = I.length) (h2 : ∀ cs ∈ css, cs.length = 1) (h3 : ∀ k (h : k < I.length) (h' : k < css.length), rStr base css[k] I[k]) (h5 : ∀ b, (Value.slice A1 k1 C1).ownBlock = some b → base.heap.size ≤ b)
  (hrw : RW w 9 1 (.slice A1 k1 C1) k1 css.flatten) {r : List UInt8} (hr : r.length ≤ reachBytes) {A' : Option Addr} {C' : Nat} (ap : AppR w 9 1 (.slice A1 k1 C1) k1 1 css.flatten [.string (strB r)] (.slice A' (k1 + 1) C') w9) (hb : BL w' gf 42 (sbC 4 A' (k1 + 1) C' none 0 0)) (hk : Kp (· = gf) w9 w') :
  FR base w' gf gr A' (k1 + 1) C' A2 k2 C2 A3 k3 C3 (I ++ [r]) J R := by
 obtain ⟨_, rr⟩ := h.r.r.row
 have hg9 : BL w9 gf 42 _ := ap.bl hrw h.f.blk (by decide)
 have r9 : SQ base w9 gr 1 A2 k2 C2 A3 k3 C3 J R := h.r.kp ap.kp (fun e => hrw.ne_bl h.r.blk (by decide) gr e rfl) (fun b e1 e2 => h.nes b e2 e1) (fun b e1 e2 => rr.ne_rw hrw (by decide) b e1 e2)
 obtain ⟨n1, n2⟩ := r9.ne_own hg9
 refine ⟨h.f.pushS hw hl h2 h3 h5 hrw hr ap hb hk, r9.kp hk (fun e => h.ne e.symm) n1 n2, h.ne, fun b e1 e2 => ?_⟩
 rcases ap.own b e1 with h9 | h9
 ·
  exact h.nes b h9 e2
 ·
  obtain ⟨_, r1⟩ := h.r.s.row
  have := r1.lt e2
  omega
/-- A name and its refs pushed to what is rewritten. -/
theorem FR.pushR (h : FR base w gf gr A1 k1 C1 A2 k2 C2 A3 k3 C3 I J R) (hw : base.heap.size ≤ w.heap.size) {css : List (List Value)} (hl : css.length = J.length) (h2 : ∀ cs ∈ css, cs.length = 1) (h3 : ∀ k (h : k < J.length) (h' : k < css.length), rStr base css[k] J[k]) (h5 : ∀ b, (Value.slice A2 k2 C2).ownBlock = some b → base.heap.size ≤ b)
  (hrw : RW w 9 1 (.slice A2 k2 C2) k2 css.flatten) {r : List UInt8} (hr : r.length ≤ reachBytes) {A' : Option Addr} {C' : Nat} (ap : AppR w 9 1 (.slice A2 k2 C2) k2 1 css.flatten [.string (strB r)] (.slice A' (k2 + 1) C') w9) (hb : BL w' gr 42 (sbC 1 A' (k2 + 1) C' A3 k3 C3)) (hk : Kp (· = gr) w9 w') :
  FR base w' gf gr A1 k1 C1 A' (k2 + 1) C' A3 k3 C3 I (J ++ [r]) R := by
 have hg9 : BL w9 gr 42 _ := ap.bl hrw h.r.blk (by decide)
 have f9 : SQ base w9 gf 4 A1 k1 C1 none 0 0 I [] := h.f.kp ap.kp (fun e => hrw.ne_bl h.f.blk (by decide) gf e rfl) (fun b e1 e2 => h.nes b e1 e2) (fun b e1 e2 => by cases e1)
 obtain ⟨n1, n2⟩ := f9.ne_own hg9
 refine ⟨f9.kp hk (fun e => h.ne e) n1 n2, h.r.pushS hw hl h2 h3 h5 hrw hr ap hb hk, h.ne, fun b e1 e2 => ?_⟩
 rcases ap.own b e2 with h9 | h9
 ·
  exact h.nes b e1 h9
 ·
  obtain ⟨_, r1⟩ := h.f.s.row
  have := r1.lt e1
  omega
theorem FR.pushRs (h : FR base w gf gr A1 k1 C1 A2 k2 C2 A3 k3 C3 I J R) (hw : base.heap.size ≤ w.heap.size) {css : List (List Value)} (hl : css.length = R.length) (h2 : ∀ cs ∈ css, cs.length = 3) (h3 : ∀ k (h : k < R.length) (h' : k < css.length), rRf base css[k] R[k]) (h5 : ∀ b, (Value.slice A3 k3 C3).ownBlock = some b → base.heap.size ≤ b)
  (hrw : RW w 73 3 (.slice A3 k3 C3) k3 css.flatten) {M : List Rf} {m : Nat} {dss : List (List Value)} (kl : dss.length = M.length) (kk : ∀ cs ∈ dss, cs.length = 3) (kx : ∀ k (h : k < M.length) (h' : k < dss.length), rRf base dss[k] M[k]) (km : M.length = m) {A' : Option Addr} {C' : Nat} (ap : AppR w 73 3 (.slice A3 k3 C3) k3 m css.flatten dss.flatten (.slice A' (k3 + m) C') w9) (hb : BL w' gr 42 (sbC 1 A2 k2 C2 A' (k3 + m) C')) (hk : Kp (· = gr) w9 w') :
  FR base w' gf gr A1 k1 C1 A2 k2 C2 A' (k3 + m) C' I J (R ++ M) := by
 obtain ⟨_, r1⟩ := h.f.s.row
 have hg9 : BL w9 gr 42 _ := ap.bl hrw h.r.blk (by decide)
 have f9 : SQ base w9 gf 4 A1 k1 C1 none 0 0 I [] := h.f.kp ap.kp (fun e => hrw.ne_bl h.f.blk (by decide) gf e rfl) (fun b e1 e2 => r1.ne_rw hrw (by decide) b e1 e2) (fun b e1 e2 => by cases e1)
 obtain ⟨n1, n2⟩ := f9.ne_own hg9
 exact ⟨f9.kp hk (fun e => h.ne e) n1 n2, h.r.pushRs hw hl h2 h3 h5 hrw kl kk kx km ap hb hk, h.ne, h.nes⟩
end
end Go.Proofs.Ytboglaokdgnpaaa
