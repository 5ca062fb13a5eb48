/- Several texts in one: App, Bsl, Sha4, Ari, Sum. -/
import Derived.Test.YtheijpjfpaghfaaGreatDoorC6
import Derived.Maps.AppendAt
import Derived.RegionTactic
import Derived.OwnWalk
import Derived.Test.YtheijpjfpaghfaaGreatDoorChecked
import Derived.Test.YtheijpjfpaghfaaGreatDoorC3
/- append onto a slice of the call's own, in the words of Mem: the source may be nil, empty or not. -/
namespace Go.Proofs.YtheijpjfpaghfaaGreatDoor
open Go Go.RowKit Gf

section
variable {P : Program} (w : World)

theorem run_app_nil (base : Nat) (t ty e : TypeId) (i : TypeInfo) (ht : P.underlying t = some (.slice e)) (hi : P.info? e = some i)
  (v : Value) (n : Nat) (xs : List Value) (hown : w.ownsRow base e 1 v n xs) (c : Nat) : (Builtin.append_ #[t, t] ty #[v, .slice none 0 c]).run P w = .ok v w := by
 rcases hown.2 with ⟨rfl, rfl⟩ | ⟨g, cap, cur, rfl, _, _, hnc, _⟩
 ·
  simp [Builtin.append_, run_underlying ht, sizeOf, typeInfo, hi, Builtin.lenOf, Builtin.firstCells]
 ·
  simp [Builtin.append_, run_underlying ht, sizeOf, typeInfo, hi, Builtin.lenOf, Builtin.firstCells, hnc, storeCells]

theorem run_app (base : Nat) (t ty e : TypeId) (i : TypeInfo) (z : Value) (bytes : Nat) (ht : P.underlying t = some (.slice e)) (hi : P.info? e = some i) (hz : i.zero = some z)
  (hsize : i.size = 1) (hby : i.bytes = bytes) (hzs : z.cells.size = 1)
  (v : Value) (n : Nat) (xs : List Value) (hown : w.ownsRow base e 1 v n xs)
  (A : Option Addr) (m c : Nat) (news : List Value) (hl : news.length = m) (hr : Cells w A m (fun k => news.getD k undef)) (h1 : ∀ u ∈ news, u.oneCell' = true)
  (hbytes : (n + m) * bytes ≤ 140737488355328) (h63 : n + m ≤ 140737488355328) (hbase : base ≤ w.heap.size) :
  ∃ v' w', (Builtin.append_ #[t, t] ty #[v, .slice A m c]).run P w = .ok v' w' ∧ w'.ownsRow base e 1 v' (n + m) (xs ++ news) ∧ w.grownBy w' v.ownBlock ∧
   (v'.ownBlock = v.ownBlock ∨ v'.ownBlock = some w.heap.size) := by
 have hmx : n + m ≤ maxLen := by simp only [maxLen]; omega
 rcases Nat.eq_zero_or_pos m with h0 | h0
 ·
  subst h0
  have hn : news = [] := List.eq_nil_of_length_eq_zero hl
  subst hn
  rcases A with _ | ad
  ·
   exact ⟨v, w, run_app_nil w base t ty e i ht hi v n xs hown c, by simpa using hown, World.grownBy.refl w _, .inl rfl⟩
  ·
   obtain ⟨v', w', hrun, h2, h3, _, h5⟩ := run_append_own_at (P := P) w base t ty e i z 1 bytes ht hi hz hsize hby hzs (by omega) v n xs hown ad 0 c [] (by simp) (fun j u hu => by simp at hu) h1 hmx hbytes hbase
   exact ⟨v', w', hrun, h2, h3, h5⟩
 ·
  obtain ⟨g, o, rfl, _⟩ := hr 0 h0
  have hcells : ∀ j u, news[j]? = some u → w.cell? ((⟨g, o, none⟩ : Addr).add j) = some u := by
   intro j u hu
   have hj : j < m := by rw [← hl]; exact (List.getElem?_eq_some_iff.1 hu).1
   obtain ⟨g', o', e', hc⟩ := hr j hj
   injection e' with e'
   injection e' with e1 e2
   subst e1 e2
   have ea : (⟨g, o, none⟩ : Addr).add j = ⟨g, o + j, none⟩ := by
    unfold Addr.add; split
    ·
     rename_i hj0; subst hj0; simp
    ·
     rfl
   rw [ea, hc]
   simp [List.getD, hu]
  obtain ⟨v', w', hrun, h2, h3, _, h5⟩ := run_append_own_at (P := P) w base t ty e i z 1 bytes ht hi hz hsize hby hzs (by omega) v n xs hown ⟨g, o, none⟩ m c news (by omega) hcells h1 hmx hbytes hbase
  exact ⟨v', w', hrun, h2, h3, h5⟩

/-- What an append leaves. -/
def AppPost (base : Nat) (e : TypeId) (v : Value) (n m : Nat) (xs : List Value) (v' : Value) (w w' : World) : Prop :=
 w'.ownsRow base e 1 v' (n + m) xs ∧ w.grownBy w' v.ownBlock ∧ (v'.ownBlock = v.ownBlock ∨ v'.ownBlock = some w.heap.size)

theorem wp_app {o : Oper} {a : Act} {K : Act → World → Prop} {Q : Exit → Act → World → Prop} (s x : Operand) (t : TypeId)
  (ho : o.op = .call { callee := .builtin .append, args := #[s, x], argTypes := #[t, t] })
  (base : Nat) (e : TypeId) (i : TypeInfo) (z : Value) (bytes : Nat) (ht : P.underlying t = some (.slice e)) (hi : P.info? e = some i) (hz : i.zero = some z)
  (hsize : i.size = 1) (hby : i.bytes = bytes) (hzs : z.cells.size = 1)
  (v : Value) (n : Nat) (xs : List Value) (hs : a.eval s = v) (hown : w.ownsRow base e 1 v n xs)
  (A : Option Addr) (m c : Nat) (news : List Value) (hx : a.eval x = .slice A m c) (hl : news.length = m) (hr : Cells w A m (fun k => news.getD k undef)) (h1 : ∀ u ∈ news, u.oneCell' = true)
  (hbytes : (n + m) * bytes ≤ 140737488355328) (h63 : n + m ≤ 140737488355328) (hbase : base ≤ w.heap.size)
  (h : ∀ v' w', AppPost base e v n m (xs ++ news) v' w w' → K (a.put o.dst v') w') : o.wp P a w K Q := by
 obtain ⟨v', w', hrun, h2, h3, h4⟩ := run_app (P := P) w base t o.type e i z bytes ht hi hz hsize hby hzs v n xs hown A m c news hl hr h1 hbytes h63 hbase
 unfold Oper.wp execOp
 simp only [ho, resolve, invoke, builtin, Sem.run_bind, Sem.run_pure, Result.andThen_ok, List.map_toArray, List.map_cons, List.map_nil, hs, hx, hrun]
 exact h v' w' ⟨h2, h3, h4⟩
end

theorem info_some {P : Program} {e : TypeId} {z : Value} {size bytes : Nat} (h : (P.info? e).map (fun i => (i.zero, i.size, i.bytes)) = some (some z, size, bytes)) : ∃ i, P.info? e = some i ∧ i.zero = some z ∧ i.size = size ∧ i.bytes = bytes := info_parts h

theorem cells_of_BS {w : World} {A : Option Addr} {m c : Nat} {l : List UInt8} (h : BS w A m c l) : Cells w A m (fun k => (l.map B).getD k undef) := fun k hk => by
 obtain ⟨g, o, e, hc⟩ := h.2.2.2 k hk
 have hkl : k < l.length := by rw [h.1]; exact hk
 refine ⟨g, o, e, ?_⟩
 show _ = some ((l.map B).getD k undef)
 rw [hc]
 show some (B (gB l k)) = _
 rw [gB_eq hkl]
 simp [List.getD, List.getElem?_eq_getElem hkl]

/-- append of bytes, at an operation of a region that draws. -/
theorem wp_appB (w : World) {o : Oper} {a : Act} {K : Act → World → Prop} {Q : Exit → Act → World → Prop} (s x : Operand)
  (ho : o.op = .call { callee := .builtin .append, args := #[s, x], argTypes := #[22, 22] })
  (base : Nat) (v : Value) (n : Nat) (l : List UInt8) (hs : a.eval s = v) (hown : w.ownsRow base 5 1 v n (l.map B))
  (A : Option Addr) (m c : Nat) (l' : List UInt8) (hx : a.eval x = .slice A m c) (hr : BS w A m c l') (hb : n + m ≤ 140737488355328) (hbase : base ≤ w.heap.size)
  (h : ∀ v' w', AppPost base 5 v n m ((l ++ l').map B) v' w w' → K (a.put o.dst v') w') : o.wp Tryz.prog a w K Q := by
 obtain ⟨i, hi, hz, hsz, hby⟩ := info_some infoU8
 exact wp_app w s x _ ho base 5 i _ 1 Tryz.underlying22 hi hz hsz hby rfl v n (l.map B) hs hown A m c (l'.map B) hx (by simp [hr.1]) (cells_of_BS hr) (by simp [Value.oneCell']) (by omega) hb hbase
  (fun v' w' hp => h v' w' (by rw [List.map_append]; exact hp))
theorem wpList_appB (w : World) {ops : Array Oper} {rest : List Oper} {o : Oper} {a : Act} {Q : Exit → Act → World → Prop} (hgd : o.guard = none) (s x : Operand)
  (ho : o.op = .call { callee := .builtin .append, args := #[s, x], argTypes := #[22, 22] })
  (base : Nat) (v : Value) (n : Nat) (l : List UInt8) (hs : a.eval s = v) (hown : w.ownsRow base 5 1 v n (l.map B))
  (A : Option Addr) (m c : Nat) (l' : List UInt8) (hx : a.eval x = .slice A m c) (hr : BS w A m c l') (hb : n + m ≤ 140737488355328) (hbase : base ≤ w.heap.size)
  (h : ∀ v' w', AppPost base 5 v n m ((l ++ l').map B) v' w w' → wpList Tryz.prog ops Q rest (a.put o.dst v') w') : wpList Tryz.prog ops Q (o :: rest) a w :=
 wpList_plain hgd fun _ hK => wp_appB w s x ho base v n l hs hown A m c l' hx hr hb hbase fun v' w' hp => hK _ _ (h v' w' hp)

/-- One value appended: it lies in a new block of its own. -/
theorem cells_one {w : World} {g : Nat} {t : TypeId} {u : Value} (h : Blk w g t #[u]) : Cells w (some ⟨g, 0, none⟩) 1 (fun k => [u].getD k undef) := fun k hk => by
 obtain rfl : k = 0 := by omega
 exact ⟨g, 0, rfl, by rw [h.cell]; rfl⟩
theorem wp_app1 (w : World) {o : Oper} {a : Act} {K : Act → World → Prop} {Q : Exit → Act → World → Prop} (s x : Operand) (t e : TypeId) (z : Value) (bytes : Nat) (ht : Tryz.prog.underlying t = some (.slice e))
  (hinfo : (Tryz.prog.info? e).map (fun i => (i.zero, i.size, i.bytes)) = some (some z, 1, bytes)) (hzs : z.cells.size = 1)
  (ho : o.op = .call { callee := .builtin .append, args := #[s, x], argTypes := #[t, t] })
  (base : Nat) (v : Value) (n : Nat) (xs : List Value) (hs : a.eval s = v) (hown : w.ownsRow base e 1 v n xs)
  (g c : Nat) (te : TypeId) (u : Value) (hx : a.eval x = .slice (some ⟨g, 0, none⟩) 1 c) (hblk : Blk w g te #[u]) (hu : u.oneCell' = true) (hb : (n + 1) * bytes ≤ 140737488355328) (hn : n < 140737488355328) (hbase : base ≤ w.heap.size)
  (h : ∀ v' w', AppPost base e v n 1 (xs ++ [u]) v' w w' → K (a.put o.dst v') w') : o.wp Tryz.prog a w K Q := by
 obtain ⟨i, hi, hz, hsz, hby⟩ := info_some hinfo
 exact wp_app w s x _ ho base e i _ bytes ht hi hz hsz hby hzs v n xs hs hown _ 1 c [u] hx rfl (cells_one hblk) (by simp [hu]) hb (by omega) hbase h
theorem wpList_app1 (w : World) {ops : Array Oper} {rest : List Oper} {o : Oper} {a : Act} {Q : Exit → Act → World → Prop} (hgd : o.guard = none) (s x : Operand) (t e : TypeId) (z : Value) (bytes : Nat) (ht : Tryz.prog.underlying t = some (.slice e))
  (hinfo : (Tryz.prog.info? e).map (fun i => (i.zero, i.size, i.bytes)) = some (some z, 1, bytes)) (hzs : z.cells.size = 1)
  (ho : o.op = .call { callee := .builtin .append, args := #[s, x], argTypes := #[t, t] })
  (base : Nat) (v : Value) (n : Nat) (xs : List Value) (hs : a.eval s = v) (hown : w.ownsRow base e 1 v n xs)
  (g c : Nat) (te : TypeId) (u : Value) (hx : a.eval x = .slice (some ⟨g, 0, none⟩) 1 c) (hblk : Blk w g te #[u]) (hu : u.oneCell' = true) (hb : (n + 1) * bytes ≤ 140737488355328) (hn : n < 140737488355328) (hbase : base ≤ w.heap.size)
  (h : ∀ v' w', AppPost base e v n 1 (xs ++ [u]) v' w w' → wpList Tryz.prog ops Q rest (a.put o.dst v') w') : wpList Tryz.prog ops Q (o :: rest) a w :=
 wpList_plain hgd fun _ hK => wp_app1 w s x t e z bytes ht hinfo hzs ho base v n xs hs hown g c te u hx hblk hu hb hn hbase fun v' w' hp => hK _ _ (h v' w' hp)

/-- An owned row's block is not one of another element type. -/
theorem own_ne {w : World} {base : Nat} {e t : TypeId} {n g : Nat} {v : Value} {xs : List Value} {cs : Array Value} (h : w.ownsRow base e 1 v n xs) (hg : Blk w g t cs) (hne : e ≠ t) : v.ownBlock ≠ some g := by
 rcases h.2 with ⟨rfl, _⟩ | ⟨g', cap, cur, rfl, _, hh, _⟩
 ·
  simp [Value.ownBlock]
 ·
  intro he
  have : g' = g := by simpa [Value.ownBlock] using he
  subst this
  unfold Blk at hg
  rw [hg] at hh
  injection hh with hh
  injection hh with _ ht
  exact hne ht.symm
theorem own_base {w : World} {base : Nat} {e : TypeId} {n : Nat} {v : Value} {xs : List Value} (h : w.ownsRow base e 1 v n xs) : ∀ k, v.ownBlock = some k → base ≤ k := fun k hk => (h.lt k hk).1
theorem grown_blk {w w' : World} {row : Option Nat} {g : Nat} {t : TypeId} {cs : Array Value} (hg : w.grownBy w' row) (h : Blk w g t cs) (hne : row ≠ some g) : Blk w' g t cs :=
 (hg.block g h.lt (fun e => hne e.symm)).trans h
end Go.Proofs.YtheijpjfpaghfaaGreatDoor
/- A new slice of given bytes ([]byte{..}), as a law at the operation. -/
namespace Go.Proofs.YtheijpjfpaghfaaGreatDoor
open Go Go.RowKit Gf

theorem wpList_bslice {P : Program} (w : World) {ops : Array Oper} {rest : List Oper} {o : Oper} {a : Act} {Q : Exit → Act → World → Prop} (hg : o.guard = none) (t te : TypeId) (n : Nat) (parts : Array (Nat × Operand)) (hop : o.op = .buildSlice t n parts) (ps : Array (Nat × Value)) (hps : (parts.map fun (i, x) => (i, a.eval x)) = ps) (l : List Value)
  (hr : (Instr.buildSlice t n ps).run P w = .ok (.slice (some ⟨w.heap.size, 0, none⟩) n n) (w.alloc (.cells l.toArray te)))
  (h : ∀ w', BL w' w.heap.size te l → Below w.heap.size w w' → w'.heap.size = w.heap.size + 1 → wpList P ops Q rest (a.put o.dst (.slice (some ⟨w.heap.size, 0, none⟩) n n)) w') : wpList P ops Q (o :: rest) a w :=
 wpList_plain hg fun K hK => by
  unfold Oper.wp execOp
  simp only [hop, hps]
  simp [hr, Result.andThen]
  exact hK _ _ (h _ (BL.new w te l) ((Below.refl _ _).alloc (Nat.le_refl _) _) (by simp))
theorem bsl4 (a b c d : UInt8) (w : World) : (Instr.buildSlice 22 4 #[(0, B a), (1, B b), (2, B c), (3, B d)]).run Tryz.prog w = .ok (.slice (some ⟨w.heap.size, 0, none⟩) 4 4) (w.alloc (.cells [B a, B b, B c, B d].toArray 5)) := by kernel_rfl

/-- make([]T, k, n), T of one cell. -/
theorem wpList_mk {P : Program} (w : World) {ops : Array Oper} {rest : List Oper} {o : Oper} {a : Act} {Q : Exit → Act → World → Prop} (hg : o.guard = none) (t te : TypeId) (x y : Operand) (hop : o.op = .makeSlice t x y) (zv : Value) (bytes : Nat) (ht : P.underlying t = some (.slice te))
  (hinfo : (P.info? te).map (fun i => (i.zero, i.size, i.bytes)) = some (some zv, 1, bytes)) (hz1 : zv.cells = #[zv]) (k n : Nat) (zx zy : Int) (hx : a.eval x = .int .i64 zx) (hy : a.eval y = .int .i64 zy) (hzx : zx = (k : Int)) (hzy : zy = (n : Int)) (hk : k ≤ n) (hb : bytes * n ≤ 281474976710656) (hn : n ≤ 9223372036854775807)
  (h : ∀ w', BL w' w.heap.size te (List.replicate n zv) → Below w.heap.size w w' → w'.heap.size = w.heap.size + 1 → wpList P ops Q rest (a.put o.dst (.slice (some ⟨w.heap.size, 0, none⟩) k n)) w') : wpList P ops Q (o :: rest) a w :=
 wpList_plain hg fun K hK => by
  subst hzx hzy
  obtain ⟨i, hi, hz, hs, hby⟩ := info_parts hinfo
  have hbb : (i.bytes : Int) * (n : Int) ≤ 281474976710656 := by rw [hby, ← Int.natCast_mul]; exact Int.ofNat_le.2 hb
  have hr := run_make (P := P) w t te i zv ht hi hz .i64 .i64 (k : Int) (n : Int) (by omega) (by omega) hbb (by omega)
  rw [hs, hz1] at hr
  simp only [Int.toNat_natCast, Nat.mul_one, made_one] at hr
  unfold Oper.wp execOp
  simp only [hop, hx, hy]
  simp [hr, Result.andThen]
  exact hK _ _ (h _ (BL.new w te _) ((Below.refl _ _).alloc (Nat.le_refl _) _) (by simp))

/-- A byte slice of the call's own over a block known whole. -/
theorem BL.bs {w : World} {g : Nat} {t : TypeId} {l : List UInt8} (h : BL w g t (l.map B)) {n : Nat} (hn : l.length = n) (hl : n ≤ lim) : BS w (some ⟨g, 0, none⟩) n n l :=
 ⟨hn, Nat.le_refl _, hl, fun k hk => ⟨g, 0, rfl, by
  rw [Nat.zero_add]
  refine h.get ?_
  rw [List.getElem?_map, List.getElem?_eq_getElem (by omega)]
  show some (B _) = some (B (gB l k))
  rw [gB_eq (by omega)]⟩⟩
/-- .. as an owned row. -/
theorem BL.own {w : World} {g base : Nat} {t : TypeId} {l : List Value} (h : BL w g t l) (hg : base ≤ g) {n : Nat} (hn : l.length = n) (hl : n ≤ lim) : w.ownsRow base t 1 (.slice (some ⟨g, 0, none⟩) n n) n l := by
 unfold lim at hl
 refine ⟨by omega, .inr ⟨g, n, l.toArray, rfl, hg, h, Nat.le_refl _, by unfold maxLen; omega, by simp [hn], ?_⟩⟩
 simp [← hn]
theorem BL.own0 {w : World} {g base : Nat} {t : TypeId} {l : List Value} (h : BL w g t l) (hg : base ≤ g) {n : Nat} (hn : l.length = n) (hl : n ≤ lim) : w.ownsRow base t 1 (.slice (some ⟨g, 0, none⟩) 0 n) 0 [] := by
 unfold lim at hl
 exact ⟨rfl, .inr ⟨g, n, l.toArray, rfl, hg, h, Nat.zero_le _, by unfold maxLen; omega, by simp [hn], rfl⟩⟩
theorem AppPost.own {base : Nat} {e : TypeId} {v : Value} {n m : Nat} {xs : List Value} {v' : Value} {w w' : World} (h : AppPost base e v n m xs v' w w') : w'.ownsRow base e 1 v' (n + m) xs := h.1
/-- An append is no change of what is old. -/
theorem AppPost.below {base B : Nat} {e : TypeId} {v : Value} {n m : Nat} {xs ys : List Value} {v' : Value} {w0 w w' : World} (h : AppPost base e v n m xs v' w w') (ho : w.ownsRow base e 1 v n ys) (hb : Below B w0 w) (hB : B ≤ base) (hs : B ≤ w.heap.size) : Below B w0 w' :=
 hb.grown h.2.1 hs (fun b hb' => Nat.le_trans hB (own_base ho b hb'))
theorem AppPost.kp {base : Nat} {e : TypeId} {v : Value} {n m : Nat} {xs ys : List Value} {v' : Value} {S : Nat → Prop} {w0 w w' : World} (h : AppPost base e v n m xs v' w w') (ho : w.ownsRow base e 1 v n ys) (hb : Kp S w0 w) (hB : w0.heap.size ≤ base) : Kp S w0 w' :=
 hb.grown h.2.1 (fun k hk => .inr (Nat.le_trans hB (own_base ho k hk)))
theorem own_form {w : World} {base n : Nat} {e : TypeId} {v : Value} {xs : List Value} (h : w.ownsRow base e 1 v n xs) (hn : 0 < n) : ∃ g cap, v = .slice (some ⟨g, 0, none⟩) n cap := by
 rcases h.2 with ⟨_, h0⟩ | ⟨g, cap, _, rfl, _⟩
 ·
  omega
 ·
  exact ⟨g, cap, rfl⟩
/-- Behind an append of some elements: the value written out. -/
theorem AppPost.form {base : Nat} {e : TypeId} {v : Value} {n m : Nat} {xs : List Value} {v' : Value} {w w' : World} (h : AppPost base e v n m xs v' w w') (hn : 0 < n + m) : ∃ g cap, v' = .slice (some ⟨g, 0, none⟩) (n + m) cap := own_form h.1 hn
/-- A block of another element type stays. -/
theorem AppPost.bl {base : Nat} {e : TypeId} {v : Value} {n m : Nat} {xs ys l : List Value} {v' : Value} {w w' : World} {g : Nat} {t : TypeId} (h : AppPost base e v n m xs v' w w') (ho : w.ownsRow base e 1 v n ys) (hb : BL w g t l) (hne : e ≠ t) : BL w' g t l :=
 grown_blk h.2.1 hb (own_ne ho hb hne)
end Go.Proofs.YtheijpjfpaghfaaGreatDoor
/- The padding of SHA-256 as the program makes it. No program in sight. -/
namespace Go.Proofs.YtheijpjfpaghfaaGreatDoor
open Go Go.RowKit Gf

namespace Sha
/-- How many zeros. -/
def zr (n : Nat) : Nat := (119 - n % 64) % 64
/-- After the 128, k zeros. -/
def padz (k : Nat) : List UInt8 := (128 : UInt8) :: List.replicate k 0
theorem padz_succ (k : Nat) : padz k ++ [0] = padz (k + 1) := by
 simp only [padz, List.cons_append]; rw [List.replicate_succ']
/-- Byte i of the count. -/
def cb (n i : Nat) : UInt8 := UInt8.ofNat ((n * 8) >>> (56 - 8 * i))
/-- .. and i bytes of the count. -/
def padc (n i : Nat) : List UInt8 := padz (zr n) ++ (List.range i).map (cb n)
theorem padc_zero (n : Nat) : padc n 0 = padz (zr n) := by simp [padc]
theorem padc_succ (n i : Nat) : padc n i ++ [cb n i] = padc n (i + 1) := by
 rw [padc, padc, List.range_succ, List.map_append, List.append_assoc]; rfl
theorem padding_padc (n : Nat) : padding n = padc n 8 := by
 simp only [padding, padc, padz, be8, List.cons_append]; rfl
theorem zr_spec (n k : Nat) (h : k < zr n) : (n + (k + 1)) % 64 ≠ 56 := by unfold zr at h; omega
theorem zr_end (n : Nat) : (n + (zr n + 1)) % 64 = 56 := by unfold zr; omega
theorem zr_lt (n : Nat) : zr n < 64 := by unfold zr; omega
/-- The bytes of the first k words. -/
def outb (s : St) : Nat → List UInt8
 | 0 => []
 | k + 1 => outb s k ++ bytes4 (sw s k)
theorem outb_all (s : St) : outb s 8 = s.bytes := rfl
theorem sha_length (l : List UInt8) : (sha l).length = 32 := rfl
/-- The bytes of a word as the walk spells them. -/
theorem conv_b (x : UInt32) : IntKind.u8.wrap (wv x) = bv x.toUInt8 := by
 unfold wv bv
 show (x.toNat : Int) % 256 = _
 rw [UInt32.toNat_toUInt8]
 omega
theorem sh24 (x : UInt32) : wv x / (16777216 : Int) = wv (x >>> 24) := shr_w x 24 (by decide)
theorem sh16 (x : UInt32) : wv x / (65536 : Int) = wv (x >>> 16) := shr_w x 16 (by decide)
theorem sh8 (x : UInt32) : wv x / (256 : Int) = wv (x >>> 8) := shr_w x 8 (by decide)
end Sha
end Go.Proofs.YtheijpjfpaghfaaGreatDoor
/- Operations on unsigned 64-bit numbers that are casts of naturals, as laws at the operation. Proved for any program. -/
namespace Go.Proofs.YtheijpjfpaghfaaGreatDoor
open Go Go.RowKit Gf

section
variable {P : Program} (w : World) {ops : Array Oper} {rest : List Oper} {o : Oper} {a : Act} {Q : Exit → Act → World → Prop}
/-- x >> s. -/
theorem wpList_shrN (hg : o.guard = none) (x y : Operand) (t t2 : TypeId) (hop : o.op = .binOp .shr t x y t2) (ky : IntKind) (X s : Nat) (zx zy : Int) (hx : a.eval x = .int .u64 zx) (hy : a.eval y = .int ky zy) (hX : zx = (X : Int)) (hs : zy = (s : Int)) (hs64 : s ≤ 64)
  (h : wpList P ops Q rest (a.put o.dst (.int .u64 ((X >>> s : Nat) : Int))) w) : wpList P ops Q (o :: rest) a w :=
 wpList_plain hg fun K hK => by
  subst hX hs
  have e : (((X >>> s : Nat) : Int)) = (X : Int) / 2 ^ s := by
   rw [Nat.shiftRight_eq_div_pow, Int.natCast_ediv, Int.natCast_pow]; rfl
  rw [e] at h
  unfold Oper.wp execOp
  simp only [hop, hx, hy, binOp, Sem.run_bind]
  simp [eqGuard, Result.andThen]
  exact hK _ _ h
/-- byte(x). -/
theorem wpList_u8N (hg : o.guard = none) (x : Operand) (t t2 : TypeId) (hop : o.op = .convert t t2 x) (d : TypeDesc) (k : IntKind) (ht : P.underlying t = some d) (ht2 : P.underlying t2 = some (.int .u8)) (X : Nat) (zx : Int) (hx : a.eval x = .int k zx) (hX : zx = (X : Int))
  (h : wpList P ops Q rest (a.put o.dst (B (UInt8.ofNat X))) w) : wpList P ops Q (o :: rest) a w :=
 wpList_plain hg fun K hK => by
  subst hX
  have e : IntKind.u8.wrap (X : Int) = bv (UInt8.ofNat X) := by
   show (X : Int) % 256 = _
   unfold bv
   rw [UInt8.toNat_ofNat', Int.natCast_emod]; rfl
  unfold Oper.wp execOp
  simp only [hop, hx]
  simp [convert, run_underlying ht, run_underlying ht2, Conv.intToInt, Result.andThen, e]
  exact hK _ _ h
end
end Go.Proofs.YtheijpjfpaghfaaGreatDoor
/- Contracts of sha256.New and (*sha256.State).Sum. -/
namespace Go.Proofs.YtheijpjfpaghfaaGreatDoor
open Go.RowKit Gf Sha

theorem build_ini (w : World) : (Instr.build 173 #[(0, .agg ini.cells.toArray)]).run Tryz.prog w = .ok (.agg (stv ini (List.replicate 64 0) 0 []).toArray) w := by kernel_rfl

set_option maxRecDepth 100000 in
set_option maxHeartbeats 1000000 in
theorem new_any (w : World) (hT : Tabs w) :
  Calls Tryz.prog 102 #[] w fun e w' => e = .returned (.pointer (some ⟨w.heap.size, 0, none⟩)) ∧ Hs w' w.heap.size 173 [] [] ∧ Below w.heap.size w w' := by
 have HT := Lib.hid hT
 clear hT
 go_enter Tryz.func102, Tryz.ntmps102
 go_wp2_with (first
  | ((with_reducible show OpW 1); refine wpList_loadv _ rfl 171 (.global 1) rfl 8 (by kernel_rfl) 1 0 ini.cells rfl HT.out.ini rfl ?_)
  | ((with_reducible show OpW 2); refine wpList_build _ rfl 173 _ rfl #[(0, .agg ini.cells.toArray)] rfl _ (build_ini _) ?_)
  | ((with_reducible show OpW 3); refine wpList_box _ rfl 173 (.tmp 2) rfl (stv ini (List.replicate 64 0) 0 []) rfl ?_; intro w2 b1 b2 b3))
 go_ret
 exact ⟨rfl, ⟨List.replicate 64 0, rfl, b1, rfl⟩, b2⟩

attribute [local go_sem] Sha.conv_b Sha.sh24 Sha.sh16 Sha.sh8
theorem stv_first (s : St) (buf : List UInt8) (n : Nat) (rest : List Value) : stv s buf n rest = stv s buf n [] ++ rest := by simp [stv]
theorem stv_first_length (s : St) (buf : List UInt8) (n : Nat) (h : buf.length = 64) : (stv s buf n []).length = 73 := by rw [stv_length _ _ _ _ h]; rfl
theorem stv_one (s : St) (buf : List UInt8) (n : Nat) : ∀ v ∈ stv s buf n [], v.oneCell' = true := by
 intro v hv
 simp only [stv, St.cells, List.mem_append, List.mem_map, List.mem_cons, List.not_mem_nil, or_false] at hv
 rcases hv with (rfl | rfl | rfl | rfl | rfl | rfl | rfl | rfl) | ⟨b, _, rfl⟩ | rfl <;> rfl
theorem zero_state : (Tryz.prog.info? 173).map (·.zero) = some (some (.agg (stv ⟨0, 0, 0, 0, 0, 0, 0, 0⟩ (List.replicate 64 0) 0 []).toArray)) := by kernel_rfl
theorem splice_all (l vs : List Value) (h : vs.length = l.length) : splice l 0 vs = vs := by simp [splice, h]

set_option maxRecDepth 100000 in
set_option maxHeartbeats 2000000 in
theorem sum_any (g : Nat) (t : TypeId) (l : List UInt8) (rest : List Value) (w : World) (hs0 : Hs w g t rest l) (hT : Tabs w) (hN : l.length ≤ 1125899906842624) :
  Calls Tryz.prog 104 #[.pointer (some ⟨g, 0, none⟩)] w fun e w' => e = .returned (.string (strB (sha l))) ∧ Below w.heap.size w w' := by
 have HT := Lib.hid hT
 have HH := Lib.hid hs0
 obtain ⟨buf, hb1, hb2, hb3⟩ := hs0
 have HB1 := Lib.hid hb1
 have HB3 := Lib.hid hb3
 have q1 := hb2.get (stv_len _ _ _ _ hb1)
 obtain ⟨n, hn⟩ : ∃ n, n = l.length := ⟨_, rfl⟩
 rw [← hn] at q1 hN hb2
 rw [stv_first] at hb2
 have HAT := Lib.hid (BL.all hb2).left
 have HBL := Lib.hid hb2
 have HN := Lib.hid hn
 clear hn hb1 hb2 hb3 hT
 go_enter Tryz.func104, Tryz.ntmps104
 go_wp2_with (first
  | ((with_reducible show OpW 12); refine wpList_loadv _ rfl 173 (.tmp 11) rfl 73 (by kernel_rfl) g 0 (stv (hs l) buf n []) rfl HAT.out (stv_first_length _ _ _ HB1.out) ?_)
  | ((with_reducible show OpW 3); refine wpList_alloc _ rfl 173 rfl (stv ⟨0, 0, 0, 0, 0, 0, 0, 0⟩ (List.replicate 64 0) 0 []) zero_state ?_; intro w2 b1 b2 b3; have HB2 := Lib.hid b2; have HZ2 := Lib.hid b3; clear b2 b3)
  | ((with_reducible show OpN); refine wpList_storev _ rfl 173 (.tmp 3) (.tmp 12) rfl 73 (by kernel_rfl) w.heap.size 0 _ _ (stv (hs l) buf n []) rfl rfl b1 (stv_first_length _ _ _ HB1.out) (stv_one _ _ _) (by decide) ?_; intro w3 c1 c2 c3; rw [splice_all _ _ (by rw [stv_first_length _ _ _ HB1.out]; rfl)] at c1; have HC1 := Lib.hid c1; have HC2 := Lib.hid c2; have HC3 := Lib.hid c3; clear b1 c1 c2 c3))
 have HO4 : Hid ((w3.alloc (.cells #[.int .u8 128] 5)).ownsRow w3.heap.size 5 1 (.slice (some ⟨w3.heap.size, 0, none⟩) 1 1) 1 ((padz 0).map B)) := Lib.hid (BL.own (BL.new w3 5 [B 128]) (Nat.le_refl _) rfl (by decide))
 have HB4 : Hid (Below w3.heap.size w3 (w3.alloc (.cells #[.int .u8 128] 5))) := Lib.hid ((Below.refl _ _).alloc (Nat.le_refl _) _)
 have hz := zr_lt n
 go_loopw [4] (fun v wr => ∃ (k m g4 c4 : Nat), k ≤ zr n ∧ m ≤ 64 ∧ v = .slice (some ⟨g4, 0, none⟩) m c4 ∧ Hid (m = k + 1) ∧ Hid (wr.ownsRow w3.heap.size 5 1 (.slice (some ⟨g4, 0, none⟩) m c4) m ((padz k).map B)) ∧ Hid (Below w3.heap.size w3 wr)) (fun v _ => 65 - lenV v)
 case atStart => exact ⟨0, 1, _, _, by omega, by omega, rfl, Lib.hid rfl, HO4, HB4⟩
 case round =>
  obtain ⟨k, m, g4, c4, hk, hm64, rfl, hm, ho, hbw⟩ := hrel
  have hq : wr.cell? ⟨g, 72, none⟩ = some (.int .i64 (n : Int)) := by
   have e1 := cell_kept HB2.out q1
   have e2 := HC2.out.cell e1 (by show ¬ g = w.heap.size; have := HBL.out.lt; omega)
   exact cell_kept hbw.out e2
  by_cases hlt : k < zr n
  ·
   have ht : (((n : Int) + (m : Int)) % 64 != 56) = true := by
    have := zr_spec n k hlt
    have e := hm.out
    simp only [bne_iff_ne, ne_eq]; omega
   have hm2 : m < 64 := by have := hm.out; omega
   have HBB := Lib.hid (hbw.out.alloc hbw.out.size (.cells #[.int .u8 0] 5))
   have HOO := Lib.hid (ho.out.kept (World.grownBy_alloc wr (.cells #[.int .u8 0] 5) none) (by simp [Value.ownBlock]))
   have HBK : Hid (Blk (wr.alloc (.cells #[.int .u8 0] 5)) wr.heap.size 5 #[B 0]) := Lib.hid (Blk.new wr 5 #[B 0])
   go_wp2_with ((with_reducible show OpW 25); refine wpList_app1 _ rfl (.tmp 23) (.tmp 24) 22 5 (.int .u8 0) 1 Tryz.underlying22 infoU8 rfl rfl w3.heap.size _ m _ rfl HOO.out wr.heap.size 1 5 (B 0) rfl HBK.out rfl (by omega) (by omega) HBB.out.size ?_; intro v6 w6 hp)
   obtain ⟨g6, c6, rfl⟩ := hp.form (by omega)
   have HO6 : Hid (w6.ownsRow w3.heap.size 5 1 (.slice (some ⟨g6, 0, none⟩) (m + 1) c6) (m + 1) ((padz (k + 1)).map B)) := Lib.hid (by have := hp.own; rw [← padz_succ, List.map_append]; exact this)
   have HB6 := Lib.hid (hp.below HOO.out HBB.out (Nat.le_refl _) HBB.out.size)
   clear hp ht hq
   go_wp2_with fail
   go_roundw
   case rel => exact ⟨k + 1, m + 1, _, _, by omega, by omega, rfl, Lib.hid (by rw [hm.out]), HO6, HB6⟩
   case measure => simp [lenV]; omega
  ·
   obtain rfl : k = zr n := by omega
   have ht : (((n : Int) + (m : Int)) % 64 != 56) = false := by
    have := zr_end n
    have e := hm.out
    simp only [bne_eq_false_iff_eq]; omega
   go_wp2_with fail
   clear ht hq
   have HO4 := Lib.hid ho.out
   have HBW := Lib.hid hbw.out
   have hb1 : m ≤ 64 := hm64
   have HOI : Hid (wr.ownsRow w3.heap.size 5 1 (.slice (some ⟨g4, 0, none⟩) m c4) m ((padc n 0).map B)) := Lib.hid (by rw [padc_zero]; exact ho.out)
   go_loopw [4, 6] (fun v sh wx => ∃ (i m g5 c5 : Nat) (z : Int), i ≤ 8 ∧ m ≤ 72 ∧ z + 8 * i ≤ 56 ∧ 56 ≤ z + 8 * i ∧ sh = .int .i64 z ∧ v = .slice (some ⟨g5, 0, none⟩) m c5 ∧ Hid (m = zr n + 1 + i) ∧ Hid (wx.ownsRow w3.heap.size 5 1 (.slice (some ⟨g5, 0, none⟩) m c5) m ((padc n i).map B)) ∧ Hid (Below w3.heap.size w3 wx)) (fun _ sh _ => (intOf sh + 8).toNat)
   case atStart => exact ⟨0, m, _, _, 56, by omega, by omega, by omega, by omega, rfl, rfl, hm, HOI, HBW⟩
   case round =>
    obtain ⟨i, m, g5, c5, z, hi, hm72, hz1, hz2, rfl, rfl, hmi, ho5, hb5⟩ := hrel
    by_cases hlt : i < 8
    ·
     have hz0 : 0 ≤ z := by omega
     have hm2 : m < 72 := by have := hmi.out; omega
     obtain ⟨wx, hwx⟩ : ∃ x, x = wr := ⟨_, rfl⟩
     rw [← hwx] at ho5 hb5 ⊢
     clear hwx
     have HBB := Lib.hid (hb5.out.alloc hb5.out.size (.cells #[B (cb n i)] 5))
     have HOO := Lib.hid (ho5.out.kept (World.grownBy_alloc wx (.cells #[B (cb n i)] 5) none) (by simp [Value.ownBlock]))
     have HBK : Hid (Blk (wx.alloc (.cells #[B (cb n i)] 5)) wx.heap.size 5 #[B (cb n i)]) := Lib.hid (Blk.new wx 5 #[B (cb n i)])
     go_wp2_with (first
      | ((with_reducible show OpW 39); refine wpList_shrN _ rfl (.tmp 37) (.tmp 38) _ _ rfl .i64 (n * 8) (56 - 8 * i) _ z rfl rfl (by omega) (by omega) (by omega) ?_)
      | ((with_reducible show OpW 40); refine wpList_u8N _ rfl (.tmp 39) 98 5 rfl _ .u64 Tryz.underlying98 Tryz.underlying5 _ _ rfl rfl ?_; rw [show UInt8.ofNat ((n * 8) >>> (56 - 8 * i)) = cb n i from rfl])
      | ((with_reducible show OpW 42); refine wpList_app1 _ rfl (.tmp 36) (.tmp 41) 22 5 (.int .u8 0) 1 Tryz.underlying22 infoU8 rfl rfl w3.heap.size _ m _ rfl HOO.out wx.heap.size 1 5 (B (cb n i)) rfl HBK.out rfl (by omega) (by omega) HBB.out.size ?_; intro v6 w6 hp))
     obtain ⟨g6, c6, rfl⟩ := hp.form (by omega)
     have HO6 : Hid (w6.ownsRow w3.heap.size 5 1 (.slice (some ⟨g6, 0, none⟩) (m + 1) c6) (m + 1) ((padc n (i + 1)).map B)) := Lib.hid (by have := hp.own; rw [← padc_succ, List.map_append]; exact this)
     have HB6 := Lib.hid (hp.below HOO.out HBB.out (Nat.le_refl _) HBB.out.size)
     clear hp
     go_wp2_with fail
     go_roundw
     case rel => exact ⟨i + 1, m + 1, _, _, z - 8, by omega, by omega, by omega, by omega, by go_num, rfl, Lib.hid (by rw [hmi.out]; omega), HO6, HB6⟩
     case measure => simp [intOf]; omega
    ·
     obtain rfl : i = 8 := by omega
     have hz0 : z < 0 := by omega
     obtain ⟨wx, hwx⟩ : ∃ x, x = wr := ⟨_, rfl⟩
     rw [← hwx] at ho5 hb5 ⊢
     clear hwx
     have HHs : Hid (Hs wx w.heap.size 173 [] l) := Lib.hid (by
      refine ⟨buf, HB1.out, ?_, HB3.out⟩
      rw [← HN.out]
      exact HC1.out.kept hb5.out)
     have HTx : Hid (Tabs wx) := Lib.hid (((HT.out.kept HB2.out).kp HC2.out (by rintro k rfl; exact HT.out.size)).kept hb5.out)
     have HZ3 : Hid (w3.heap.size = w.heap.size + 1) := Lib.hid (by rw [HC3.out, HZ2.out])
     obtain ⟨Ap, cp, ep, hbs⟩ := BS.of_own ho5.out (by have := hm72; unfold lim; omega)
     cases ep
     have HBS := Lib.hid hbs
     have HFA : Hid (FarB (some ⟨g5, 0, none⟩) m (· = w.heap.size)) := Lib.hid (fun g' o' _ e e2 => by
      cases e
      have e2 : g5 = w.heap.size := e2
      have := own_base ho5.out g5 rfl
      have := HZ3.out
      omega)
     have HLm : Hid (l.length + m ≤ 1152921504606846976) := Lib.hid (by rw [← HN.out]; omega)
     have HTW : Hid (2 < w.heap.size) := Lib.hid HT.out.size
     have HE : Hid (sha l = (hs (l ++ padc n 8)).bytes) := Lib.hid (by rw [sha, ← HN.out, padding_padc])
     obtain ⟨T, hT⟩ : ∃ T, T = l ++ padc n 8 := ⟨_, rfl⟩
     rw [← hT] at HE
     have HTT := Lib.hid hT
     clear hbs hT
     go_wp2_with (first
      | (go_at_call 103; refine (write_any w.heap.size m c5 _ 173 l (padc n 8) [] wx HHs.out HBS.out HTx.out HTW.out HFA.out HLm.out).mono ?_; rintro e w7 ⟨rfl, r1, r2⟩; rw [← HTT.out] at r1; obtain ⟨bf, s1, s2, s3⟩ := r1; have HS1 := Lib.hid s1; have HS2 := Lib.hid s2; have HR2 := Lib.hid r2; have HS4 := Lib.hid (BL.all s2).left; clear r2 s1 s2 s3)
      | ((with_reducible show OpW 45); refine wpList_mk _ rfl 22 5 _ _ rfl (.int .u8 0) 1 Tryz.underlying22 infoU8 rfl 0 32 0 32 rfl rfl rfl rfl (by decide) (by decide) (by decide) ?_; intro w8 t1 t2 t3; have HM8 := Lib.hid t1; have HB8 := Lib.hid t2; have HZ8 := Lib.hid t3; clear t1 t2 t3)
      | ((with_reducible show OpW 47); refine wpList_loadv _ rfl 171 (.tmp 46) rfl 8 (by kernel_rfl) w.heap.size 0 (hs T).cells rfl ((HS4.out.left).kept HB8.out) rfl ?_))
     have HO8 : Hid (w8.ownsRow w7.heap.size 5 1 (.slice (some ⟨w7.heap.size, 0, none⟩) 0 32) 0 ((outb (hs T) 0).map B)) := Lib.hid (BL.own0 HM8.out (Nat.le_refl _) rfl (by decide))
     have HB8' : Hid (Below w7.heap.size w8 w8) := Lib.hid (Below.refl _ _)
     go_loopw [7, 48] (fun v iv wy => ∃ (k m g9 c9 : Nat), k ≤ 8 ∧ m ≤ 32 ∧ iv = .int .i64 (k : Int) ∧ v = .slice (some ⟨g9, 0, none⟩) m c9 ∧ Hid (m = 4 * k) ∧ Hid (wy.ownsRow w7.heap.size 5 1 (.slice (some ⟨g9, 0, none⟩) m c9) m ((outb (hs T) k).map B)) ∧ Hid (Below w7.heap.size w8 wy)) (fun _ iv _ => 8 - (intOf iv).toNat)
     case atStart => exact ⟨0, 0, _, _, by omega, by omega, rfl, rfl, Lib.hid rfl, HO8, HB8'⟩
     case round =>
      obtain ⟨k, m, g9, c9, hk8, hm32, rfl, rfl, hmk, ho9, hb9⟩ := hrel
      obtain ⟨wy, hwy⟩ : ∃ x, x = wr := ⟨_, rfl⟩
      rw [← hwy] at ho9 hb9 ⊢
      clear hwy
      have HSZ : Hid (w7.heap.size ≤ wy.heap.size) := Lib.hid (by have := hb9.out.size; have := HZ8.out; omega)
      by_cases hlt : k < 8
      ·
       have c1 := run_index (P := Tryz.prog) wy Tryz.underlying171 (by kernel_rfl) (by kernel_rfl) hlt (by rw [List.getElem?_toArray]; exact cells_sw (hs T) k hlt)
       obtain ⟨x, hx⟩ : ∃ x, x = sw (hs T) k := ⟨_, rfl⟩
       rw [← hx] at c1
       have HXX := Lib.hid hx
       clear hx
       have hm28 : m ≤ 28 := by have := hmk.out; omega
       have HOO := Lib.hid (ho9.out.kept (World.grownBy_alloc wy (.cells #[B (x >>> 24).toUInt8, B (x >>> 16).toUInt8, B (x >>> 8).toUInt8, B x.toUInt8] 5) none) (by simp [Value.ownBlock]))
       have HBB := Lib.hid (hb9.out.alloc HSZ.out (.cells #[B (x >>> 24).toUInt8, B (x >>> 16).toUInt8, B (x >>> 8).toUInt8, B x.toUInt8] 5))
       have HBK : Hid (BS (wy.alloc (.cells #[B (x >>> 24).toUInt8, B (x >>> 16).toUInt8, B (x >>> 8).toUInt8, B x.toUInt8] 5)) (some ⟨wy.heap.size, 0, none⟩) 4 4 (bytes4 x)) := Lib.hid (BL.bs (l := bytes4 x) (BL.new wy 5 ((bytes4 x).map B)) rfl (by decide))
       have HSB : Hid (w7.heap.size ≤ (wy.alloc (.cells #[B (x >>> 24).toUInt8, B (x >>> 16).toUInt8, B (x >>> 8).toUInt8, B x.toUInt8] 5)).heap.size) := Lib.hid (by have := HSZ.out; simp; omega)
       go_wp2_with ((with_reducible show OpW 64); refine wpList_appB _ rfl (.tmp 51) (.tmp 63) rfl w7.heap.size _ m _ rfl HOO.out _ 4 4 (bytes4 x) rfl HBK.out (by omega) HSB.out ?_; intro v6 w6 hp)
       obtain ⟨g6, c6, rfl⟩ := hp.form (by omega)
       have HO6 : Hid (w6.ownsRow w7.heap.size 5 1 (.slice (some ⟨g6, 0, none⟩) (m + 4) c6) (m + 4) ((outb (hs T) (k + 1)).map B)) := Lib.hid (by have := hp.own; rw [outb, ← HXX.out]; exact this)
       have HB6 := Lib.hid (hp.below HOO.out HBB.out (Nat.le_refl _) HSB.out)
       clear hp c1
       go_wp2_with fail
       go_roundw
       case rel => exact ⟨k + 1, m + 4, _, _, by omega, by omega, by go_num, rfl, Lib.hid (by rw [hmk.out]; omega), HO6, HB6⟩
       case measure => simp [intOf]; omega
      ·
       obtain rfl : k = 8 := by omega
       obtain ⟨A8, c8, e8, hb8⟩ := BS.of_own ho9.out (by have := hm32; unfold lim; omega)
       cases e8
       have cv := conv_str hb8
       go_wp2_with fail
       go_ret
       refine ⟨?_, ?_⟩
       ·
        rw [HE.out, ← outb_all]; rfl
       ·
        have k1 : Kp (fun _ => False) w w2 := Kp.of_below HB2.out
        have k3 : Below w.heap.size w w3 := (k1.after HC2.out (fun i hi e => by omega)).below (Nat.le_refl _) (fun _ h => h.elim)
        have k4 : Below w.heap.size w wx := below_thenB k3 (by have := HZ3.out; omega) hb5.out
        have k5 : Below w.heap.size w w7 := ((Kp.of_below (S := fun _ => False) k4).after HR2.out (fun i hi e => by omega)).below (Nat.le_refl _) (fun _ h => h.elim)
        have k6 : w.heap.size ≤ w7.heap.size := k5.size
        exact (k5.trans (HB8.out.mono k6)).trans (hb9.out.mono k6)
end Go.Proofs.YtheijpjfpaghfaaGreatDoor
