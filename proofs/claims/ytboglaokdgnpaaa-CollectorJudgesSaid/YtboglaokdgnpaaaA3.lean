/- Several texts in one: Mk, App, Bsl, Cpy, Grow. -/
import Derived.Test.YtboglaokdgnpaaaChecked
import Derived.Test.YtboglaokdgnpaaaA1
import Derived.WalkKit
import Derived.Maps.AppendAt
import Derived.RegionTactic
import Derived.OwnWalk
import Derived.Laws.BytesArg
import Derived.Laws.IdiomStrings
import Derived.Deep.AppendSrc
import Derived.Lib.AppendStr
/- Closed facts about the program's tables, and 'make' of the element types that the chapter uses. -/
namespace Go.Proofs.Ytboglaokdgnpaaa
open Go Go.RowKit Gf

theorem infoU8 : (Try.prog.info? 5).map (fun i => (i.zero, i.size, i.bytes)) = some (some (.int .u8 0), 1, 1) := by kernel_rfl
theorem infoInt : (Try.prog.info? 3).map (fun i => (i.zero, i.size, i.bytes)) = some (some (.int .i64 0), 1, 8) := by kernel_rfl

theorem infoStr : (Try.prog.info? 9).map (fun i => (i.zero, i.size, i.bytes)) = some (some (.string ByteArray.empty), 1, 16) := by kernel_rfl

theorem made_one (z : Value) (n : Nat) : madeCells #[z] n = (List.replicate n z).toArray := by
 rw [← toList_madeCells_one]

theorem make_bytes (n : Nat) (h : n ≤ 140737488355328) (w : World) :
  (Instr.makeSlice 114 (.int .i64 (n : Int)) (.int .i64 (n : Int))).run Try.prog w = .ok (.slice (some ⟨w.heap.size, 0, none⟩) n n) (w.alloc (.cells (row (zeros n)) 5)) := by
 obtain ⟨i, hi, hz, hs, hb⟩ := info_parts infoU8
 have hr := run_make (P := Try.prog) w 114 5 i _ Try.underlying114 hi hz .i64 .i64 n n (by omega) (by omega) (by rw [hb]; omega) (by omega)
 rw [hr, hs]
 simp only [Int.toNat_natCast, Value.cells, Nat.mul_one]
 rw [made_one]
 simp [row, zeros]; rfl

end Go.Proofs.Ytboglaokdgnpaaa
/- append onto a slice of the call's own, in the words of Mem: the source may be nil, empty or not. -/
namespace Go.Proofs.Ytboglaokdgnpaaa
open Go Go.RowKit Gf

section
variable {P : Program} (w : World)

theorem run_app_nil (base : Nat) (t ty e : TypeId) (i : TypeInfo) (ht : P.underlying t = some (.slice e)) (hi : P.info? e = some i)
  (v : Value) (n : Nat) (xs : List Value) (hown : w.ownsRow base e 1 v n xs) (c : Nat) : (Builtin.append_ #[t, t] ty #[v, .slice none 0 c]).run P w = .ok v w := by
 rcases hown.2 with ⟨rfl, rfl⟩ | ⟨g, cap, cur, rfl, _, _, hnc, _⟩
 ·
  simp [Builtin.append_, run_underlying ht, sizeOf, typeInfo, hi, Builtin.lenOf, Builtin.firstCells]
 ·
  simp [Builtin.append_, run_underlying ht, sizeOf, typeInfo, hi, Builtin.lenOf, Builtin.firstCells, hnc, storeCells]

theorem run_app (base : Nat) (t ty e : TypeId) (i : TypeInfo) (z : Value) (bytes : Nat) (ht : P.underlying t = some (.slice e)) (hi : P.info? e = some i) (hz : i.zero = some z)
  (hsize : i.size = 1) (hby : i.bytes = bytes) (hzs : z.cells.size = 1)
  (v : Value) (n : Nat) (xs : List Value) (hown : w.ownsRow base e 1 v n xs)
  (A : Option Addr) (m c : Nat) (news : List Value) (hl : news.length = m) (hr : Cells w A m (fun k => news.getD k undef)) (h1 : ∀ u ∈ news, u.oneCell' = true)
  (hbytes : (n + m) * bytes ≤ 140737488355328) (h63 : n + m ≤ 140737488355328) (hbase : base ≤ w.heap.size) :
  ∃ v' w', (Builtin.append_ #[t, t] ty #[v, .slice A m c]).run P w = .ok v' w' ∧ w'.ownsRow base e 1 v' (n + m) (xs ++ news) ∧ w.grownBy w' v.ownBlock ∧
   (v'.ownBlock = v.ownBlock ∨ v'.ownBlock = some w.heap.size) := by
 have hmx : n + m ≤ maxLen := by simp only [maxLen]; omega
 rcases Nat.eq_zero_or_pos m with h0 | h0
 ·
  subst h0
  have hn : news = [] := List.eq_nil_of_length_eq_zero hl
  subst hn
  rcases A with _ | ad
  ·
   exact ⟨v, w, run_app_nil w base t ty e i ht hi v n xs hown c, by simpa using hown, World.grownBy.refl w _, .inl rfl⟩
  ·
   obtain ⟨v', w', hrun, h2, h3, _, h5⟩ := run_append_own_at (P := P) w base t ty e i z 1 bytes ht hi hz hsize hby hzs (by omega) v n xs hown ad 0 c [] (by simp) (fun j u hu => by simp at hu) h1 hmx hbytes hbase
   exact ⟨v', w', hrun, h2, h3, h5⟩
 ·
  obtain ⟨g, o, rfl, _⟩ := hr 0 h0
  have hcells : ∀ j u, news[j]? = some u → w.cell? ((⟨g, o, none⟩ : Addr).add j) = some u := by
   intro j u hu
   have hj : j < m := by rw [← hl]; exact (List.getElem?_eq_some_iff.1 hu).1
   obtain ⟨g', o', e', hc⟩ := hr j hj
   injection e' with e'
   injection e' with e1 e2
   subst e1 e2
   have ea : (⟨g, o, none⟩ : Addr).add j = ⟨g, o + j, none⟩ := by
    unfold Addr.add; split
    ·
     rename_i hj0; subst hj0; simp
    ·
     rfl
   rw [ea, hc]
   simp [List.getD, hu]
  obtain ⟨v', w', hrun, h2, h3, _, h5⟩ := run_append_own_at (P := P) w base t ty e i z 1 bytes ht hi hz hsize hby hzs (by omega) v n xs hown ⟨g, o, none⟩ m c news (by omega) hcells h1 hmx hbytes hbase
  exact ⟨v', w', hrun, h2, h3, h5⟩

/-- What an append leaves. -/
def AppPost (base : Nat) (e : TypeId) (v : Value) (n m : Nat) (xs : List Value) (v' : Value) (w w' : World) : Prop :=
 w'.ownsRow base e 1 v' (n + m) xs ∧ w.grownBy w' v.ownBlock ∧ (v'.ownBlock = v.ownBlock ∨ v'.ownBlock = some w.heap.size)

theorem wp_app {o : Oper} {a : Act} {K : Act → World → Prop} {Q : Exit → Act → World → Prop} (s x : Operand) (t : TypeId)
  (ho : o.op = .call { callee := .builtin .append, args := #[s, x], argTypes := #[t, t] })
  (base : Nat) (e : TypeId) (i : TypeInfo) (z : Value) (bytes : Nat) (ht : P.underlying t = some (.slice e)) (hi : P.info? e = some i) (hz : i.zero = some z)
  (hsize : i.size = 1) (hby : i.bytes = bytes) (hzs : z.cells.size = 1)
  (v : Value) (n : Nat) (xs : List Value) (hs : a.eval s = v) (hown : w.ownsRow base e 1 v n xs)
  (A : Option Addr) (m c : Nat) (news : List Value) (hx : a.eval x = .slice A m c) (hl : news.length = m) (hr : Cells w A m (fun k => news.getD k undef)) (h1 : ∀ u ∈ news, u.oneCell' = true)
  (hbytes : (n + m) * bytes ≤ 140737488355328) (h63 : n + m ≤ 140737488355328) (hbase : base ≤ w.heap.size)
  (h : ∀ v' w', AppPost base e v n m (xs ++ news) v' w w' → K (a.put o.dst v') w') : o.wp P a w K Q := by
 obtain ⟨v', w', hrun, h2, h3, h4⟩ := run_app (P := P) w base t o.type e i z bytes ht hi hz hsize hby hzs v n xs hown A m c news hl hr h1 hbytes h63 hbase
 unfold Oper.wp execOp
 simp only [ho, resolve, invoke, builtin, Sem.run_bind, Sem.run_pure, Result.andThen_ok, List.map_toArray, List.map_cons, List.map_nil, hs, hx, hrun]
 exact h v' w' ⟨h2, h3, h4⟩
end

theorem wpList_app {P : Program} (w : World) {ops : Array Oper} {rest : List Oper} {o : Oper} {a : Act} {Q : Exit → Act → World → Prop} (hgd : o.guard = none) (s x : Operand) (t : TypeId)
  (ho : o.op = .call { callee := .builtin .append, args := #[s, x], argTypes := #[t, t] })
  (base : Nat) (e : TypeId) (z : Value) (bytes : Nat) (ht : P.underlying t = some (.slice e)) (hinfo : (P.info? e).map (fun i => (i.zero, i.size, i.bytes)) = some (some z, 1, bytes)) (hzs : z.cells.size = 1)
  (v : Value) (n : Nat) (xs : List Value) (hs : a.eval s = v) (hown : w.ownsRow base e 1 v n xs)
  (A : Option Addr) (m c : Nat) (news : List Value) (hx : a.eval x = .slice A m c) (hl : news.length = m) (hr : Cells w A m (fun k => news.getD k undef)) (h1 : ∀ u ∈ news, u.oneCell' = true)
  (hbytes : (n + m) * bytes ≤ 140737488355328) (h63 : n + m ≤ 140737488355328) (hbase : base ≤ w.heap.size)
  (h : ∀ v' w', AppPost base e v n m (xs ++ news) v' w w' → wpList P ops Q rest (a.put o.dst v') w') : wpList P ops Q (o :: rest) a w := by
 obtain ⟨i, hi, hz, hsz, hby⟩ := info_parts hinfo
 exact wpList_plain hgd fun _ hK => wp_app w s x t ho base e i z bytes ht hi hz hsz hby hzs v n xs hs hown A m c news hx hl hr h1 hbytes h63 hbase fun v' w' hp => hK _ _ (h v' w' hp)

theorem info_some {P : Program} {e : TypeId} {z : Value} {size bytes : Nat} (h : (P.info? e).map (fun i => (i.zero, i.size, i.bytes)) = some (some z, size, bytes)) : ∃ i, P.info? e = some i ∧ i.zero = some z ∧ i.size = size ∧ i.bytes = bytes := info_parts h

theorem cells_of_BS {w : World} {A : Option Addr} {m c : Nat} {l : List UInt8} (h : BS w A m c l) : Cells w A m (fun k => (l.map B).getD k undef) := fun k hk => by
 obtain ⟨g, o, e, hc⟩ := h.2.2.2 k hk
 have hkl : k < l.length := by rw [h.1]; exact hk
 refine ⟨g, o, e, ?_⟩
 show _ = some ((l.map B).getD k undef)
 rw [hc]
 show some (B (gB l k)) = _
 rw [gB_eq hkl]
 simp [List.getD, List.getElem?_eq_getElem hkl]

/-- append of bytes, at an operation of a region that draws. -/
theorem wp_appB (w : World) {o : Oper} {a : Act} {K : Act → World → Prop} {Q : Exit → Act → World → Prop} (s x : Operand)
  (ho : o.op = .call { callee := .builtin .append, args := #[s, x], argTypes := #[114, 114] })
  (base : Nat) (v : Value) (n : Nat) (l : List UInt8) (hs : a.eval s = v) (hown : w.ownsRow base 5 1 v n (l.map B))
  (A : Option Addr) (m c : Nat) (l' : List UInt8) (hx : a.eval x = .slice A m c) (hr : BS w A m c l') (hb : n + m ≤ 140737488355328) (hbase : base ≤ w.heap.size)
  (h : ∀ v' w', AppPost base 5 v n m ((l ++ l').map B) v' w w' → K (a.put o.dst v') w') : o.wp Try.prog a w K Q := by
 obtain ⟨i, hi, hz, hsz, hby⟩ := info_some infoU8
 exact wp_app w s x _ ho base 5 i _ 1 Try.underlying114 hi hz hsz hby rfl v n (l.map B) hs hown A m c (l'.map B) hx (by simp [hr.1]) (cells_of_BS hr) (by simp [Value.oneCell']) (by omega) hb hbase
  (fun v' w' hp => h v' w' (by rw [List.map_append]; exact hp))
theorem wpList_appB (w : World) {ops : Array Oper} {rest : List Oper} {o : Oper} {a : Act} {Q : Exit → Act → World → Prop} (hgd : o.guard = none) (s x : Operand)
  (ho : o.op = .call { callee := .builtin .append, args := #[s, x], argTypes := #[114, 114] })
  (base : Nat) (v : Value) (n : Nat) (l : List UInt8) (hs : a.eval s = v) (hown : w.ownsRow base 5 1 v n (l.map B))
  (A : Option Addr) (m c : Nat) (l' : List UInt8) (hx : a.eval x = .slice A m c) (hr : BS w A m c l') (hb : n + m ≤ 140737488355328) (hbase : base ≤ w.heap.size)
  (h : ∀ v' w', AppPost base 5 v n m ((l ++ l').map B) v' w w' → wpList Try.prog ops Q rest (a.put o.dst v') w') : wpList Try.prog ops Q (o :: rest) a w :=
 wpList_plain hgd fun _ hK => wp_appB w s x ho base v n l hs hown A m c l' hx hr hb hbase fun v' w' hp => hK _ _ (h v' w' hp)

/-- One value appended: it lies in a new block of its own. -/
theorem cells_one {w : World} {g : Nat} {t : TypeId} {u : Value} (h : Blk w g t #[u]) : Cells w (some ⟨g, 0, none⟩) 1 (fun k => [u].getD k undef) := fun k hk => by
 obtain rfl : k = 0 := by omega
 exact ⟨g, 0, rfl, by rw [h.cell]; rfl⟩
theorem wp_app1 (w : World) {o : Oper} {a : Act} {K : Act → World → Prop} {Q : Exit → Act → World → Prop} (s x : Operand) (t e : TypeId) (z : Value) (bytes : Nat) (ht : Try.prog.underlying t = some (.slice e))
  (hinfo : (Try.prog.info? e).map (fun i => (i.zero, i.size, i.bytes)) = some (some z, 1, bytes)) (hzs : z.cells.size = 1)
  (ho : o.op = .call { callee := .builtin .append, args := #[s, x], argTypes := #[t, t] })
  (base : Nat) (v : Value) (n : Nat) (xs : List Value) (hs : a.eval s = v) (hown : w.ownsRow base e 1 v n xs)
  (g c : Nat) (te : TypeId) (u : Value) (hx : a.eval x = .slice (some ⟨g, 0, none⟩) 1 c) (hblk : Blk w g te #[u]) (hu : u.oneCell' = true) (hb : (n + 1) * bytes ≤ 140737488355328) (hn : n < 140737488355328) (hbase : base ≤ w.heap.size)
  (h : ∀ v' w', AppPost base e v n 1 (xs ++ [u]) v' w w' → K (a.put o.dst v') w') : o.wp Try.prog a w K Q := by
 obtain ⟨i, hi, hz, hsz, hby⟩ := info_some hinfo
 exact wp_app w s x _ ho base e i _ bytes ht hi hz hsz hby hzs v n xs hs hown _ 1 c [u] hx rfl (cells_one hblk) (by simp [hu]) hb (by omega) hbase h
theorem wpList_app1 (w : World) {ops : Array Oper} {rest : List Oper} {o : Oper} {a : Act} {Q : Exit → Act → World → Prop} (hgd : o.guard = none) (s x : Operand) (t e : TypeId) (z : Value) (bytes : Nat) (ht : Try.prog.underlying t = some (.slice e))
  (hinfo : (Try.prog.info? e).map (fun i => (i.zero, i.size, i.bytes)) = some (some z, 1, bytes)) (hzs : z.cells.size = 1)
  (ho : o.op = .call { callee := .builtin .append, args := #[s, x], argTypes := #[t, t] })
  (base : Nat) (v : Value) (n : Nat) (xs : List Value) (hs : a.eval s = v) (hown : w.ownsRow base e 1 v n xs)
  (g c : Nat) (te : TypeId) (u : Value) (hx : a.eval x = .slice (some ⟨g, 0, none⟩) 1 c) (hblk : Blk w g te #[u]) (hu : u.oneCell' = true) (hb : (n + 1) * bytes ≤ 140737488355328) (hn : n < 140737488355328) (hbase : base ≤ w.heap.size)
  (h : ∀ v' w', AppPost base e v n 1 (xs ++ [u]) v' w w' → wpList Try.prog ops Q rest (a.put o.dst v') w') : wpList Try.prog ops Q (o :: rest) a w :=
 wpList_plain hgd fun _ hK => wp_app1 w s x t e z bytes ht hinfo hzs ho base v n xs hs hown g c te u hx hblk hu hb hn hbase fun v' w' hp => hK _ _ (h v' w' hp)

/-- An owned row's block is not one of another element type. -/
theorem own_ne {w : World} {base : Nat} {e t : TypeId} {n g : Nat} {v : Value} {xs : List Value} {cs : Array Value} (h : w.ownsRow base e 1 v n xs) (hg : Blk w g t cs) (hne : e ≠ t) : v.ownBlock ≠ some g := by
 rcases h.2 with ⟨rfl, _⟩ | ⟨g', cap, cur, rfl, _, hh, _⟩
 ·
  simp [Value.ownBlock]
 ·
  intro he
  have : g' = g := by simpa [Value.ownBlock] using he
  subst this
  unfold Blk at hg
  rw [hg] at hh
  injection hh with hh
  injection hh with _ ht
  exact hne ht.symm
theorem own_base {w : World} {base : Nat} {e : TypeId} {n : Nat} {v : Value} {xs : List Value} (h : w.ownsRow base e 1 v n xs) : ∀ k, v.ownBlock = some k → base ≤ k := fun k hk => (h.lt k hk).1
theorem grown_blk {w w' : World} {row : Option Nat} {g : Nat} {t : TypeId} {cs : Array Value} (hg : w.grownBy w' row) (h : Blk w g t cs) (hne : row ≠ some g) : Blk w' g t cs :=
 (hg.block g h.lt (fun e => hne e.symm)).trans h
end Go.Proofs.Ytboglaokdgnpaaa
/- A new slice of given bytes ([]byte{..}), as a law at the operation. -/
namespace Go.Proofs.Ytboglaokdgnpaaa
open Go Go.RowKit Gf

theorem wpList_bslice {P : Program} (w : World) {ops : Array Oper} {rest : List Oper} {o : Oper} {a : Act} {Q : Exit → Act → World → Prop} (hg : o.guard = none) (t te : TypeId) (n : Nat) (parts : Array (Nat × Operand)) (hop : o.op = .buildSlice t n parts) (ps : Array (Nat × Value)) (hps : (parts.map fun (i, x) => (i, a.eval x)) = ps) (l : List Value)
  (hr : (Instr.buildSlice t n ps).run P w = .ok (.slice (some ⟨w.heap.size, 0, none⟩) n n) (w.alloc (.cells l.toArray te)))
  (h : ∀ w', BL w' w.heap.size te l → Below w.heap.size w w' → w'.heap.size = w.heap.size + 1 → wpList P ops Q rest (a.put o.dst (.slice (some ⟨w.heap.size, 0, none⟩) n n)) w') : wpList P ops Q (o :: rest) a w :=
 wpList_plain hg fun K hK => by
  unfold Oper.wp execOp
  simp only [hop, hps]
  simp [hr, Result.andThen]
  exact hK _ _ (h _ (BL.new w te l) ((Below.refl _ _).alloc (Nat.le_refl _) _) (by simp))
theorem bsl1 (b : UInt8) (w : World) : (Instr.buildSlice 114 1 #[(0, B b)]).run Try.prog w = .ok (.slice (some ⟨w.heap.size, 0, none⟩) 1 1) (w.alloc (.cells [B b].toArray 5)) := by kernel_rfl
theorem bsl4 (a b c d : UInt8) (w : World) : (Instr.buildSlice 114 4 #[(0, B a), (1, B b), (2, B c), (3, B d)]).run Try.prog w = .ok (.slice (some ⟨w.heap.size, 0, none⟩) 4 4) (w.alloc (.cells [B a, B b, B c, B d].toArray 5)) := by kernel_rfl

/-- make([]T, k, n), T of one cell. -/
theorem wpList_mk {P : Program} (w : World) {ops : Array Oper} {rest : List Oper} {o : Oper} {a : Act} {Q : Exit → Act → World → Prop} (hg : o.guard = none) (t te : TypeId) (x y : Operand) (hop : o.op = .makeSlice t x y) (zv : Value) (bytes : Nat) (ht : P.underlying t = some (.slice te))
  (hinfo : (P.info? te).map (fun i => (i.zero, i.size, i.bytes)) = some (some zv, 1, bytes)) (hz1 : zv.cells = #[zv]) (k n : Nat) (zx zy : Int) (hx : a.eval x = .int .i64 zx) (hy : a.eval y = .int .i64 zy) (hzx : zx = (k : Int)) (hzy : zy = (n : Int)) (hk : k ≤ n) (hb : bytes * n ≤ 281474976710656) (hn : n ≤ 9223372036854775807)
  (h : ∀ w', BL w' w.heap.size te (List.replicate n zv) → Below w.heap.size w w' → w'.heap.size = w.heap.size + 1 → wpList P ops Q rest (a.put o.dst (.slice (some ⟨w.heap.size, 0, none⟩) k n)) w') : wpList P ops Q (o :: rest) a w :=
 wpList_plain hg fun K hK => by
  subst hzx hzy
  obtain ⟨i, hi, hz, hs, hby⟩ := info_parts hinfo
  have hbb : (i.bytes : Int) * (n : Int) ≤ 281474976710656 := by rw [hby, ← Int.natCast_mul]; exact Int.ofNat_le.2 hb
  have hr := run_make (P := P) w t te i zv ht hi hz .i64 .i64 (k : Int) (n : Int) (by omega) (by omega) hbb (by omega)
  rw [hs, hz1] at hr
  simp only [Int.toNat_natCast, Nat.mul_one, made_one] at hr
  unfold Oper.wp execOp
  simp only [hop, hx, hy]
  simp [hr, Result.andThen]
  exact hK _ _ (h _ (BL.new w te _) ((Below.refl _ _).alloc (Nat.le_refl _) _) (by simp))

/-- A byte slice of the call's own over a block known whole. -/
theorem BL.bs {w : World} {g : Nat} {t : TypeId} {l : List UInt8} (h : BL w g t (l.map B)) {n : Nat} (hn : l.length = n) (hl : n ≤ lim) : BS w (some ⟨g, 0, none⟩) n n l :=
 ⟨hn, Nat.le_refl _, hl, fun k hk => ⟨g, 0, rfl, by
  rw [Nat.zero_add]
  refine h.get ?_
  rw [List.getElem?_map, List.getElem?_eq_getElem (by omega)]
  show some (B _) = some (B (gB l k))
  rw [gB_eq (by omega)]⟩⟩
/-- .. as an owned row. -/
theorem BL.own {w : World} {g base : Nat} {t : TypeId} {l : List Value} (h : BL w g t l) (hg : base ≤ g) {n : Nat} (hn : l.length = n) (hl : n ≤ lim) : w.ownsRow base t 1 (.slice (some ⟨g, 0, none⟩) n n) n l := by
 unfold lim at hl
 refine ⟨by omega, .inr ⟨g, n, l.toArray, rfl, hg, h, Nat.le_refl _, by unfold maxLen; omega, by simp [hn], ?_⟩⟩
 simp [← hn]
theorem BL.own0 {w : World} {g base : Nat} {t : TypeId} {l : List Value} (h : BL w g t l) (hg : base ≤ g) {n : Nat} (hn : l.length = n) (hl : n ≤ lim) : w.ownsRow base t 1 (.slice (some ⟨g, 0, none⟩) 0 n) 0 [] := by
 unfold lim at hl
 exact ⟨rfl, .inr ⟨g, n, l.toArray, rfl, hg, h, Nat.zero_le _, by unfold maxLen; omega, by simp [hn], rfl⟩⟩
theorem AppPost.own {base : Nat} {e : TypeId} {v : Value} {n m : Nat} {xs : List Value} {v' : Value} {w w' : World} (h : AppPost base e v n m xs v' w w') : w'.ownsRow base e 1 v' (n + m) xs := h.1
/-- An append is no change of what is old. -/
theorem AppPost.below {base B : Nat} {e : TypeId} {v : Value} {n m : Nat} {xs ys : List Value} {v' : Value} {w0 w w' : World} (h : AppPost base e v n m xs v' w w') (ho : w.ownsRow base e 1 v n ys) (hb : Below B w0 w) (hB : B ≤ base) (hs : B ≤ w.heap.size) : Below B w0 w' :=
 hb.grown h.2.1 hs (fun b hb' => Nat.le_trans hB (own_base ho b hb'))
theorem AppPost.kp {base : Nat} {e : TypeId} {v : Value} {n m : Nat} {xs ys : List Value} {v' : Value} {S : Nat → Prop} {w0 w w' : World} (h : AppPost base e v n m xs v' w w') (ho : w.ownsRow base e 1 v n ys) (hb : Kp S w0 w) (hB : w0.heap.size ≤ base) : Kp S w0 w' :=
 hb.grown h.2.1 (fun k hk => .inr (Nat.le_trans hB (own_base ho k hk)))
theorem own_form {w : World} {base n : Nat} {e : TypeId} {v : Value} {xs : List Value} (h : w.ownsRow base e 1 v n xs) (hn : 0 < n) : ∃ g cap, v = .slice (some ⟨g, 0, none⟩) n cap := by
 rcases h.2 with ⟨_, h0⟩ | ⟨g, cap, _, rfl, _⟩
 ·
  omega
 ·
  exact ⟨g, cap, rfl⟩
/-- Behind an append of some elements: the value written out. -/
theorem AppPost.form {base : Nat} {e : TypeId} {v : Value} {n m : Nat} {xs : List Value} {v' : Value} {w w' : World} (h : AppPost base e v n m xs v' w w') (hn : 0 < n + m) : ∃ g cap, v' = .slice (some ⟨g, 0, none⟩) (n + m) cap := own_form h.1 hn
/-- A block of another element type stays. -/
theorem AppPost.bl {base : Nat} {e : TypeId} {v : Value} {n m : Nat} {xs ys l : List Value} {v' : Value} {w w' : World} {g : Nat} {t : TypeId} (h : AppPost base e v n m xs v' w w') (ho : w.ownsRow base e 1 v n ys) (hb : BL w g t l) (hne : e ≠ t) : BL w' g t l :=
 grown_blk h.2.1 hb (own_ne ho hb hne)
end Go.Proofs.Ytboglaokdgnpaaa
/- copy of bytes into a part of a block; []byte(s) and string(b). -/
namespace Go.Proofs.Ytboglaokdgnpaaa
open Go Go.RowKit Gf

section
variable {P : Program} (w : World)
/-- What copy(dst, src) does: dst a part of a block that is known whole. -/
theorem run_copyB {ty te rt : TypeId} (hu : P.underlying ty = some (.slice te)) (hsz : (match P.info? te with | some i => i.size == 1 | none => false) = true)
  {g o m mc : Nat} {tb : TypeId} {l : List Value} (hb : BL w g tb l) {A : Option Addr} {n c : Nat} {x : List UInt8} (hs : BS w A n c x) (ho : o + m ≤ l.length) :
  ∃ w', (Builtin.copy_ #[ty, ty] rt #[.slice (some ⟨g, o, none⟩) m mc, .slice A n c]).run P w = .ok (.int .i64 ((min n m : Nat) : Int)) w' ∧ BL w' g tb (splice l o ((x.take (min n m)).map B)) ∧ Kp (· = g) w w' ∧ w'.heap.size = w.heap.size := by
 have h2 : (sizeOf te).run P w = .ok 1 w := by
  cases hi : P.info? te with
  | none => simp [hi] at hsz
  | some i => simp [hi] at hsz; simp [sizeOf, typeInfo, hi, hsz]
 have hxl : ((x.take (min n m)).map B).length = min n m := by simp [hs.1]
 have h1 : ∀ v ∈ (x.take (min n m)).map B, v.oneCell' = true := by
  intro v hv
  obtain ⟨b, _, rfl⟩ := List.mem_map.1 hv
  rfl
 obtain ⟨w', hr, hb', hk, hz⟩ := run_storeCells (P := P) ((x.take (min n m)).map B) h1 o (min n m) 0 l w (by omega) hb (by omega)
 refine ⟨w', ?_, hb', hk, hz⟩
 have hf : (Builtin.firstCells 1 (min n m) (.slice A n c)).run P w = .ok ((x.take (min n m)).map B).toArray w := by
  cases A with
  | none =>
   have h0 : n = 0 := by
    rcases Nat.eq_zero_or_pos n with h0 | h0
    ·
     exact h0
    ·
     obtain ⟨g, o, e, _⟩ := hs.2.2.2 0 h0
     cases e
   subst h0
   simp [Builtin.firstCells]
  | some a =>
   have hl := run_loadCells_list (P := P) w a ((x.take (min n m)).map B) (fun j v hv => by
    obtain ⟨hj, hv2⟩ := List.getElem?_eq_some_iff.1 hv
    rw [hxl] at hj
    obtain ⟨g', o', e, hc⟩ := hs.2.2.2 j (by omega)
    obtain rfl := Option.some.inj e
    rw [addr_add, hc]
    show some (B (gB x j)) = _
    rw [gB_eq (by rw [hs.1]; omega), ← hv2]
    simp)
   rw [hxl] at hl
   simp [Builtin.firstCells, hl]
 rw [List.drop_zero] at hr
 have e1 : Nat.min n m = min n m := rfl
 generalize (x.take (min n m)).map B = ys at hf hr
 simp [Builtin.copy_, run_underlying hu, Builtin.lenOf, e1, h2, hf, hr, goInt, Result.andThen]

theorem wpList_copyB {ops : Array Oper} {rest : List Oper} {o : Oper} {a : Act} {Q : Exit → Act → World → Prop} (hg : o.guard = none) (s x : Operand) (ty te : TypeId) (hop : o.op = .call { callee := .builtin .copy, args := #[s, x], argTypes := #[ty, ty] })
  (hu : P.underlying ty = some (.slice te)) (hsz : (match P.info? te with | some i => i.size == 1 | none => false) = true)
  (g p m mc : Nat) (tb : TypeId) (l : List Value) (hs : a.eval s = .slice (some ⟨g, p, none⟩) m mc) (hb : BL w g tb l) (A : Option Addr) (n c : Nat) (xs : List UInt8) (hx : a.eval x = .slice A n c) (hxs : BS w A n c xs) (ho : p + m ≤ l.length)
  (h : ∀ w', BL w' g tb (splice l p ((xs.take (min n m)).map B)) → Kp (· = g) w w' → w'.heap.size = w.heap.size → wpList P ops Q rest (a.put o.dst (.int .i64 ((min n m : Nat) : Int))) w') : wpList P ops Q (o :: rest) a w :=
 wpList_plain hg fun K hK => by
  obtain ⟨w', hr, h2, h3, h4⟩ := run_copyB w (rt := o.type) hu hsz hb (mc := mc) hxs ho
  unfold Oper.wp execOp
  simp only [hop, resolve, invoke, builtin, Sem.run_bind, Sem.run_pure, Result.andThen_ok, List.map_toArray, List.map_cons, List.map_nil, hs, hx, hr]
  exact hK _ _ (h w' h2 h3 h4)
end

/-- The string of bytes. -/
def strB (l : List UInt8) : ByteArray := ⟨l.toArray⟩
theorem strB_inj {l l' : List UInt8} (h : strB l = strB l') : l = l' := by
 unfold strB at h
 injection h with h
 simpa using congrArg Array.toList h
theorem strB_list (l : List UInt8) : (strB l).toList = l := by rw [ByteArray.toList_eq]; rfl
theorem strB_of (s : ByteArray) : strB s.data.toList = s := rfl
theorem strB_size (l : List UInt8) : (strB l).size = l.length := rfl
theorem strB_eq (l l' : List UInt8) : ((strB l).toList == (strB l').toList) = decide (l = l') := by
 rw [strB_list, strB_list]
 by_cases h : l = l'
 ·
  simp [h]
 ·
  simp [h]
theorem strB_bne (l l' : List UInt8) : ((strB l).toList != (strB l').toList) = !decide (l = l') := by rw [bne, strB_eq]
theorem strB_nums (l : List UInt8) : strOfNums (l.map bv) = strB l := by
 unfold strOfNums strB
 congr 2
 rw [List.map_map]
 conv => rhs; rw [← List.map_id l]
 apply List.map_congr_left
 intro x _
 simp [bv]
theorem conv_str {w : World} {A : Option Addr} {n c : Nat} {l : List UInt8} (h : BS w A n c l) :
  (convert 114 9 (.slice A n c)).run Try.prog w = .ok (.string (strB l)) w := by
 cases A with
 | none =>
  have h0 : n = 0 := by
   rcases Nat.eq_zero_or_pos n with h0 | h0
   ·
    exact h0
   ·
    obtain ⟨g, o, e, _⟩ := h.2.2.2 0 h0
    cases e
  have hl : l = [] := List.eq_nil_of_length_eq_zero (by rw [h.1, h0])
  rw [run_convert_bytes_nil w _ _ Try.underlying114 Try.underlying5 n c _ Try.underlying9, hl]
  rfl
 | some a =>
  by_cases h0 : n = 0
  ·
   have hl : l = [] := List.eq_nil_of_length_eq_zero (by rw [h.1, h0])
   subst h0 hl
   refine (run_convert_bytes_string w 114 9 5 (some a) 0 c Try.underlying114 Try.underlying5 Try.underlying9).trans ?_
   exact run_bytesToString w a 0 c [] (run_loadCells_list (P := Try.prog) w a [] (fun j v hj => by simp at hj))
  ·
   obtain ⟨g, o, e, _⟩ := h.2.2.2 0 (by omega)
   obtain rfl := Option.some.inj e
   rw [run_convert_bytes_arg w _ _ Try.underlying114 Try.underlying5 g o n c (l.map bv) (by simp [h.1]) (fun i hi => by
    obtain ⟨g', o', e', hc⟩ := h.2.2.2 i hi
    cases Option.some.inj e'
    have hl : i < l.length := by rw [h.1]; exact hi
    rw [hc]
    show some (B (gB l i)) = _
    rw [gB_eq hl, B]
    simp [List.getD, List.getElem?_eq_getElem hl]) _ Try.underlying9, strB_nums]

/-- Behind '[]byte(s)': the bytes, perhaps more cells, and the mark behind the last one. -/
def Conv (w : World) (l : List UInt8) (w' : World) (cap : Nat) : Prop :=
 w'.heap[w.heap.size]? = some (.cells (bytesRow (strB l) cap) 5 ((bytesRow (strB l) cap).size, (bytesRow (strB l) cap).size + 1)) ∧ l.length ≤ cap ∧ Below w.heap.size w w' ∧ w'.heap.size = w.heap.size + 1
theorem conv_bytes (l : List UInt8) (w : World) : ∃ w' cap, (convert 9 114 (.string (strB l))).run Try.prog w = .ok (.slice (some ⟨w.heap.size, 0, none⟩) l.length cap) w' ∧ Conv w l w' cap := by
 have hr := run_bytes_of_string (P := Try.prog) w 9 114 5 (strB l) Try.underlying9 Try.underlying114 Try.underlying5
 refine ⟨_, _, hr, ?_, ?_, ?_, by simp⟩
 ·
  exact heap_alloc_new w.drew _
 ·
  show l.length ≤ (Question.appendCap (strB l).size 0 5).cut (w.tape w.drawn (.appendCap (strB l).size 0 5))
  rw [strB_size]
  unfold Question.cut
  exact Nat.le_add_right _ _
 ·
  exact ((Below.refl _ _).drew).alloc (Nat.le_refl _) _
theorem Conv.bs {w w' : World} {l : List UInt8} {cap : Nat} (h : Conv w l w' cap) (hl : l.length ≤ lim) : BS w' (some ⟨w.heap.size, 0, none⟩) l.length cap l :=
 ⟨rfl, h.2.1, hl, fun k hk => ⟨w.heap.size, 0, rfl, by
  rw [Nat.zero_add, cell_of_row w' w.heap.size k _ _ _ h.1, bytesRow_at (strB l) cap k (by show k < l.length; exact hk)]
  show _ = some (B (gB l k))
  rw [gB_eq hk]; rfl⟩⟩
theorem wpList_convB (w : World) {ops : Array Oper} {rest : List Oper} {o : Oper} {a : Act} {Q : Exit → Act → World → Prop} (hg : o.guard = none) (x : Operand) (hop : o.op = .convert 9 114 x) (l : List UInt8) (hx : a.eval x = .string (strB l))
  (h : ∀ w' cap, Conv w l w' cap → wpList Try.prog ops Q rest (a.put o.dst (.slice (some ⟨w.heap.size, 0, none⟩) l.length cap)) w') : wpList Try.prog ops Q (o :: rest) a w :=
 wpList_plain hg fun K hK => by
  obtain ⟨w', cap, hr, h2⟩ := conv_bytes l w
  unfold Oper.wp execOp
  simp only [hop, hx]
  simp [hr, Result.andThen]
  exact hK _ _ (h w' cap h2)
end Go.Proofs.Ytboglaokdgnpaaa
/- append onto a byte slice that is full: the result is a row of the call's own. []byte("..") of a constant. Strings as sources. -/
namespace Go.Proofs.Ytboglaokdgnpaaa
open Go Go.RowKit Gf

/-- A new row of bytes; nothing old has turned. -/
structure NewRow (w : World) (v : Value) (n : Nat) (l : List UInt8) (w' : World) : Prop where
 own : w'.ownsRow w.heap.size 5 1 v n (l.map B)
 below : Below w.heap.size w w'

theorem BS.firstCells {P : Program} {w : World} {A : Option Addr} {n c : Nat} {l : List UInt8} (h : BS w A n c l) : (Builtin.firstCells 1 n (.slice A n c)).run P w = .ok (l.map B).toArray w := by
 cases A with
 | none =>
  have h0 : n = 0 := by
   rcases Nat.eq_zero_or_pos n with h0 | h0
   ·
    exact h0
   ·
    obtain ⟨g, o, e, _⟩ := h.2.2.2 0 h0
    cases e
  have hl : l = [] := List.eq_nil_of_length_eq_zero (by rw [h.1, h0])
  subst hl
  simp [Builtin.firstCells]
 | some a =>
  have hl := run_loadCells_list (P := P) w a (l.map B) (fun j v hv => by
   obtain ⟨hj, hv2⟩ := List.getElem?_eq_some_iff.1 hv
   rw [List.length_map] at hj
   obtain ⟨g', o', e, hc⟩ := h.2.2.2 j (by rw [← h.1]; exact hj)
   obtain rfl := Option.some.inj e
   rw [addr_add, hc]
   show some (B (gB l j)) = _
   rw [gB_eq hj, ← hv2]
   simp)
  rw [List.length_map, h.1] at hl
  simp [Builtin.firstCells, hl]

theorem run_grow {w : World} {A : Option Addr} {n c : Nat} {l l' : List UInt8} (h : BS w A n c l) (tx rt : TypeId) (x : Value) (m : Nat) (hs : Src Try.prog 1 tx x m (l'.map B) w) (hg : c < n + m) (hb : n + m ≤ 140737488355328) :
  ∃ v' w', (Builtin.append_ #[114, tx] rt #[.slice A n c, x]).run Try.prog w = .ok v' w' ∧ NewRow w v' (n + m) (l ++ l') w' := by
 obtain ⟨i, hi, hz, hsz, hby⟩ := info_some infoU8
 have hf : (Builtin.firstCells i.size n (.slice A n c)).run Try.prog w.drew = .ok (l.map B).toArray w.drew := by rw [hsz]; exact BS.firstCells (h.drew)
 have hs' : Src Try.prog i.size tx x m (l'.map B) w := by rw [hsz]; exact hs
 have hr := run_append_grow_src (P := Try.prog) w 114 tx rt 5 i _ Try.underlying114 hi hz A n c (l.map B) hf x m (l'.map B) hs' hg (by omega) (by rw [hby]; exact growslice_fits hg (by omega))
 have hl' : l'.length = m := by have := hs.newsLen; simpa using this
 have hge := grownCap_ge w (n + m) c 5
 have hcm : grownCap w (n + m) c 5 ≤ maxLen := grownCap_le_maxLen w (n + m) c 5 (by simp only [maxLen]; omega)
 refine ⟨_, _, hr, ⟨⟨by simp [h.1, hl'], .inr ⟨w.heap.size, _, _, rfl, Nat.le_refl _, heap_alloc_new w.drew _, hge, hcm, ?_, ?_⟩⟩, ((Below.refl _ _).drew).alloc (Nat.le_refl _) _⟩⟩
 ·
  simp [size_zeroCells, h.1, hl', Value.cells]; omega
 ·
  have e : (n + m) * 1 = (l.map B ++ l'.map B).length := by simp [h.1, hl']
  rw [List.map_append, Array.toList_append, e]
  exact List.take_left

section
variable (w : World) {ops : Array Oper} {rest : List Oper} {o : Oper} {a : Act} {Q : Exit → Act → World → Prop}
theorem wpList_growS (hg : o.guard = none) (s x : Operand) (hop : o.op = .call { callee := .builtin .append, args := #[s, x], argTypes := #[114, 9] })
  (A : Option Addr) (n c : Nat) (l l' : List UInt8) (hs : a.eval s = .slice A n c) (h : BS w A n c l) (hx : a.eval x = .string (strB l')) (hc : c < n + l'.length) (hb : n + l'.length ≤ 140737488355328)
  (hK : ∀ v' w', NewRow w v' (n + l'.length) (l ++ l') w' → wpList Try.prog ops Q rest (a.put o.dst v') w') : wpList Try.prog ops Q (o :: rest) a w :=
 wpList_plain hg fun K hK' => by
  have hsrc : Src Try.prog 1 9 (.string (strB l')) l'.length (l'.map B) w := Src.ofString w Try.underlying9 (strB l')
  obtain ⟨v', w', hr, h2⟩ := run_grow h 9 o.type (.string (strB l')) l'.length hsrc hc hb
  unfold Oper.wp execOp
  simp only [hop, resolve, invoke, builtin, Sem.run_bind, Sem.run_pure, Result.andThen_ok, List.map_toArray, List.map_cons, List.map_nil, hs, hx, hr]
  exact hK' _ _ (hK v' w' h2)
theorem wpList_growB (hg : o.guard = none) (s x : Operand) (hop : o.op = .call { callee := .builtin .append, args := #[s, x], argTypes := #[114, 114] })
  (A : Option Addr) (n c : Nat) (l : List UInt8) (hs : a.eval s = .slice A n c) (h : BS w A n c l) (A' : Option Addr) (m c' : Nat) (l' : List UInt8) (hx : a.eval x = .slice A' m c') (h' : BS w A' m c' l') (hc : c < n + m) (hb : n + m ≤ 140737488355328)
  (hK : ∀ v' w', NewRow w v' (n + m) (l ++ l') w' → wpList Try.prog ops Q rest (a.put o.dst v') w') : wpList Try.prog ops Q (o :: rest) a w :=
 wpList_plain hg fun K hK' => by
  have hsrc : Src Try.prog 1 114 (.slice A' m c') m (l'.map B) w :=
   ⟨.inl ⟨_, Try.underlying114⟩, fun _ => rfl, BS.firstCells h', BS.firstCells h'.drew, by simp [h'.1], fun u hu => by obtain ⟨_, _, rfl⟩ := List.mem_map.1 hu; rfl⟩
  obtain ⟨v', w', hr, h2⟩ := run_grow h 114 o.type (.slice A' m c') m hsrc hc hb
  unfold Oper.wp execOp
  simp only [hop, resolve, invoke, builtin, Sem.run_bind, Sem.run_pure, Result.andThen_ok, List.map_toArray, List.map_cons, List.map_nil, hs, hx, hr]
  exact hK' _ _ (hK v' w' h2)
/-- append(b, s...), s a string, b a row of the call's own. -/
theorem wpList_appS (hgd : o.guard = none) (sl x : Operand) (ho : o.op = .call { callee := .builtin .append, args := #[sl, x], argTypes := #[114, 9] })
  (base : Nat) (v : Value) (n : Nat) (l l' : List UInt8) (hs : a.eval sl = v) (hown : w.ownsRow base 5 1 v n (l.map B)) (hx : a.eval x = .string (strB l')) (hb : n + l'.length ≤ 140737488355328) (hbase : base ≤ w.heap.size)
  (h : ∀ v' w', w'.ownsRow base 5 1 v' (n + l'.length) ((l ++ l').map B) → w.grownBy w' v.ownBlock → wpList Try.prog ops Q rest (a.put o.dst v') w') : wpList Try.prog ops Q (o :: rest) a w := by
 obtain ⟨i, hi, hz, hsz, hby⟩ := info_some infoU8
 exact Lib.wpList_append_own_string w hgd sl x 114 9 ho base 5 i Try.underlying114 Try.underlying9 hi hz hsz hby v n (l.map B) hs hown (strB l') hx (by show n + l'.length ≤ maxLen; simp only [maxLen]; omega) hb hbase (fun v' w' h1 h2 _ => h v' w' (by rw [List.map_append]; exact h1) h2)
/-- []byte("..") of a constant: the mark behind the last byte. -/
theorem wpList_same (hg : o.guard = none) (x : Operand) (hop : o.op = .convert 114 114 x) (g n c : Nat) (l : List UInt8) (hx : a.eval x = .slice (some ⟨g, 0, none⟩) n c) (h : BL w g 5 (l.map B)) (hn : l.length = n) (hl : n ≤ lim) (hc : c = n)
  (hK : ∀ w', BS w' (some ⟨g, 0, none⟩) n c l → Kp (· = g) w w' → w'.heap.size = w.heap.size → wpList Try.prog ops Q rest (a.put o.dst (.slice (some ⟨g, 0, none⟩) n c)) w') : wpList Try.prog ops Q (o :: rest) a w :=
 wpList_plain hg fun K hK' => by
  subst hc
  have hsh : w.shape? g = some (5, (l.map B).toArray.size) := by
   unfold World.shape?
   have h9 : w.heap[g]? = some (.cells (l.map B).toArray 5 (0, 0)) := h
   rw [h9]
  have hr : (convert 114 114 (.slice (some ⟨g, 0, none⟩) c c)).run Try.prog w = .ok (.slice (some ⟨g, 0, none⟩) c c) (w.freeze ⟨g, (l.map B).toArray.size, none⟩ 1) := by
   simp [convert, run_underlying Try.underlying114, run_underlying Try.underlying5, markStringish, hsh]
  have hfr : (w.freeze ⟨g, (l.map B).toArray.size, none⟩ 1).heap[g]? = some (.cells (l.map B).toArray 5 ((l.map B).toArray.size, (l.map B).toArray.size + 1)) := by
   have h9 : w.heap[g]? = some (.cells (l.map B).toArray 5 (0, 0)) := h
   unfold World.freeze
   rw [if_neg (by decide)]
   simp [Array.getElem?_modify, h9]
  have hkp : Kp (· = g) w (w.freeze ⟨g, (l.map B).toArray.size, none⟩ 1) := by
   unfold World.freeze
   rw [if_neg (by decide)]
   exact ⟨rfl, rfl, rfl, by simp, fun k _ hk => by simp [Array.getElem?_modify, show ¬ g = k from fun e => hk e.symm]⟩
  unfold Oper.wp execOp
  simp only [hop, hx, Sem.run_bind, hr, Result.andThen_ok]
  refine hK' _ _ (hK _ ⟨hn, Nat.le_refl _, hl, fun k hk => ⟨g, 0, rfl, ?_⟩⟩ hkp (by unfold World.freeze; rw [if_neg (by decide)]; simp))
  rw [Nat.zero_add, cell_of_row _ g k _ _ _ hfr]
  have hkl : k < l.length := by omega
  show (l.map B).toArray[k]? = some (B (gB l k))
  rw [gB_eq hkl]
  simp [hkl]
end

/-- The groups of a number (f: more than there are). -/
def uvf : Nat → Nat → List UInt8
 | 0, n => [UInt8.ofNat n]
 | f + 1, n => if n < 128 then [UInt8.ofNat n] else (UInt8.ofNat n ||| 128) :: uvf f (n >>> 7)
def uv (n : Nat) : List UInt8 := uvf 10 n
end Go.Proofs.Ytboglaokdgnpaaa
