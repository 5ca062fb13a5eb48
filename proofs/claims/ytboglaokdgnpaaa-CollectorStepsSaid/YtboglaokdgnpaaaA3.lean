/- Several texts in one: Mk, App, Bsl, Cpy, Grow. -/
import Derived.Test.YtboglaokdgnpaaaChecked
import Derived.Test.YtboglaokdgnpaaaA1
import Derived.WalkKit
import Derived.Maps.AppendAt
import Derived.RegionTactic
import Derived.OwnWalk
import Derived.Laws.BytesArg
import Derived.Laws.IdiomStrings
import Derived.Deep.AppendSrc
import Derived.Lib.AppendStr
/- Closed facts about the program's tables, and 'make' of the element types that the chapter uses. -/
namespace Go.Proofs.Ytboglaokdgnpaaa
open Go Go.RowKit Gf

theorem infoU8 : (Try.prog.info? 5).map (fun i => (i.zero, i.size, i.bytes)) = some (some (.int .u8 0), 1, 1) := by kernel_rfl
theorem infoStr : (Try.prog.info? 9).map (fun i => (i.zero, i.size, i.bytes)) = some (some (.string ByteArray.empty), 1, 16) := by kernel_rfl

theorem made_one (z : Value) (n : Nat) : madeCells #[z] n = (List.replicate n z).toArray := by
 rw [← toList_madeCells_one]

end Go.Proofs.Ytboglaokdgnpaaa
/- append onto a slice of the call's own, in the words of Mem: the source may be nil, empty or not. -/
namespace Go.Proofs.Ytboglaokdgnpaaa
open Go Go.RowKit Gf

section
variable {P : Program} (w : World)

theorem run_app_nil (base : Nat) (t ty e : TypeId) (i : TypeInfo) (ht : P.underlying t = some (.slice e)) (hi : P.info? e = some i)
  (v : Value) (n : Nat) (xs : List Value) (hown : w.ownsRow base e 1 v n xs) (c : Nat) : (Builtin.append_ #[t, t] ty #[v, .slice none 0 c]).run P w = .ok v w := by
 rcases hown.2 with ⟨rfl, rfl⟩ | ⟨g, cap, cur, rfl, _, _, hnc, _⟩
 ·
  simp [Builtin.append_, run_underlying ht, sizeOf, typeInfo, hi, Builtin.lenOf, Builtin.firstCells]
 ·
  simp [Builtin.append_, run_underlying ht, sizeOf, typeInfo, hi, Builtin.lenOf, Builtin.firstCells, hnc, storeCells]

theorem run_app (base : Nat) (t ty e : TypeId) (i : TypeInfo) (z : Value) (bytes : Nat) (ht : P.underlying t = some (.slice e)) (hi : P.info? e = some i) (hz : i.zero = some z)
  (hsize : i.size = 1) (hby : i.bytes = bytes) (hzs : z.cells.size = 1)
  (v : Value) (n : Nat) (xs : List Value) (hown : w.ownsRow base e 1 v n xs)
  (A : Option Addr) (m c : Nat) (news : List Value) (hl : news.length = m) (hr : Cells w A m (fun k => news.getD k undef)) (h1 : ∀ u ∈ news, u.oneCell' = true)
  (hbytes : (n + m) * bytes ≤ 140737488355328) (h63 : n + m ≤ 140737488355328) (hbase : base ≤ w.heap.size) :
  ∃ v' w', (Builtin.append_ #[t, t] ty #[v, .slice A m c]).run P w = .ok v' w' ∧ w'.ownsRow base e 1 v' (n + m) (xs ++ news) ∧ w.grownBy w' v.ownBlock ∧
   (v'.ownBlock = v.ownBlock ∨ v'.ownBlock = some w.heap.size) := by
 have hmx : n + m ≤ maxLen := by simp only [maxLen]; omega
 rcases Nat.eq_zero_or_pos m with h0 | h0
 ·
  subst h0
  have hn : news = [] := List.eq_nil_of_length_eq_zero hl
  subst hn
  rcases A with _ | ad
  ·
   exact ⟨v, w, run_app_nil w base t ty e i ht hi v n xs hown c, by simpa using hown, World.grownBy.refl w _, .inl rfl⟩
  ·
   obtain ⟨v', w', hrun, h2, h3, _, h5⟩ := run_append_own_at (P := P) w base t ty e i z 1 bytes ht hi hz hsize hby hzs (by omega) v n xs hown ad 0 c [] (by simp) (fun j u hu => by simp at hu) h1 hmx hbytes hbase
   exact ⟨v', w', hrun, h2, h3, h5⟩
 ·
  obtain ⟨g, o, rfl, _⟩ := hr 0 h0
  have hcells : ∀ j u, news[j]? = some u → w.cell? ((⟨g, o, none⟩ : Addr).add j) = some u := by
   intro j u hu
   have hj : j < m := by rw [← hl]; exact (List.getElem?_eq_some_iff.1 hu).1
   obtain ⟨g', o', e', hc⟩ := hr j hj
   injection e' with e'
   injection e' with e1 e2
   subst e1 e2
   have ea : (⟨g, o, none⟩ : Addr).add j = ⟨g, o + j, none⟩ := by
    unfold Addr.add; split
    ·
     rename_i hj0; subst hj0; simp
    ·
     rfl
   rw [ea, hc]
   simp [List.getD, hu]
  obtain ⟨v', w', hrun, h2, h3, _, h5⟩ := run_append_own_at (P := P) w base t ty e i z 1 bytes ht hi hz hsize hby hzs (by omega) v n xs hown ⟨g, o, none⟩ m c news (by omega) hcells h1 hmx hbytes hbase
  exact ⟨v', w', hrun, h2, h3, h5⟩

/-- What an append leaves. -/
def AppPost (base : Nat) (e : TypeId) (v : Value) (n m : Nat) (xs : List Value) (v' : Value) (w w' : World) : Prop :=
 w'.ownsRow base e 1 v' (n + m) xs ∧ w.grownBy w' v.ownBlock ∧ (v'.ownBlock = v.ownBlock ∨ v'.ownBlock = some w.heap.size)

theorem wp_app {o : Oper} {a : Act} {K : Act → World → Prop} {Q : Exit → Act → World → Prop} (s x : Operand) (t : TypeId)
  (ho : o.op = .call { callee := .builtin .append, args := #[s, x], argTypes := #[t, t] })
  (base : Nat) (e : TypeId) (i : TypeInfo) (z : Value) (bytes : Nat) (ht : P.underlying t = some (.slice e)) (hi : P.info? e = some i) (hz : i.zero = some z)
  (hsize : i.size = 1) (hby : i.bytes = bytes) (hzs : z.cells.size = 1)
  (v : Value) (n : Nat) (xs : List Value) (hs : a.eval s = v) (hown : w.ownsRow base e 1 v n xs)
  (A : Option Addr) (m c : Nat) (news : List Value) (hx : a.eval x = .slice A m c) (hl : news.length = m) (hr : Cells w A m (fun k => news.getD k undef)) (h1 : ∀ u ∈ news, u.oneCell' = true)
  (hbytes : (n + m) * bytes ≤ 140737488355328) (h63 : n + m ≤ 140737488355328) (hbase : base ≤ w.heap.size)
  (h : ∀ v' w', AppPost base e v n m (xs ++ news) v' w w' → K (a.put o.dst v') w') : o.wp P a w K Q := by
 obtain ⟨v', w', hrun, h2, h3, h4⟩ := run_app (P := P) w base t o.type e i z bytes ht hi hz hsize hby hzs v n xs hown A m c news hl hr h1 hbytes h63 hbase
 unfold Oper.wp execOp
 simp only [ho, resolve, invoke, builtin, Sem.run_bind, Sem.run_pure, Result.andThen_ok, List.map_toArray, List.map_cons, List.map_nil, hs, hx, hrun]
 exact h v' w' ⟨h2, h3, h4⟩
end

theorem info_some {P : Program} {e : TypeId} {z : Value} {size bytes : Nat} (h : (P.info? e).map (fun i => (i.zero, i.size, i.bytes)) = some (some z, size, bytes)) : ∃ i, P.info? e = some i ∧ i.zero = some z ∧ i.size = size ∧ i.bytes = bytes := info_parts h

/-- One value appended: it lies in a new block of its own. -/
theorem cells_one {w : World} {g : Nat} {t : TypeId} {u : Value} (h : Blk w g t #[u]) : Cells w (some ⟨g, 0, none⟩) 1 (fun k => [u].getD k undef) := fun k hk => by
 obtain rfl : k = 0 := by omega
 exact ⟨g, 0, rfl, by rw [h.cell]; rfl⟩
theorem wp_app1 (w : World) {o : Oper} {a : Act} {K : Act → World → Prop} {Q : Exit → Act → World → Prop} (s x : Operand) (t e : TypeId) (z : Value) (bytes : Nat) (ht : Try.prog.underlying t = some (.slice e))
  (hinfo : (Try.prog.info? e).map (fun i => (i.zero, i.size, i.bytes)) = some (some z, 1, bytes)) (hzs : z.cells.size = 1)
  (ho : o.op = .call { callee := .builtin .append, args := #[s, x], argTypes := #[t, t] })
  (base : Nat) (v : Value) (n : Nat) (xs : List Value) (hs : a.eval s = v) (hown : w.ownsRow base e 1 v n xs)
  (g c : Nat) (te : TypeId) (u : Value) (hx : a.eval x = .slice (some ⟨g, 0, none⟩) 1 c) (hblk : Blk w g te #[u]) (hu : u.oneCell' = true) (hb : (n + 1) * bytes ≤ 140737488355328) (hn : n < 140737488355328) (hbase : base ≤ w.heap.size)
  (h : ∀ v' w', AppPost base e v n 1 (xs ++ [u]) v' w w' → K (a.put o.dst v') w') : o.wp Try.prog a w K Q := by
 obtain ⟨i, hi, hz, hsz, hby⟩ := info_some hinfo
 exact wp_app w s x _ ho base e i _ bytes ht hi hz hsz hby hzs v n xs hs hown _ 1 c [u] hx rfl (cells_one hblk) (by simp [hu]) hb (by omega) hbase h
theorem wpList_app1 (w : World) {ops : Array Oper} {rest : List Oper} {o : Oper} {a : Act} {Q : Exit → Act → World → Prop} (hgd : o.guard = none) (s x : Operand) (t e : TypeId) (z : Value) (bytes : Nat) (ht : Try.prog.underlying t = some (.slice e))
  (hinfo : (Try.prog.info? e).map (fun i => (i.zero, i.size, i.bytes)) = some (some z, 1, bytes)) (hzs : z.cells.size = 1)
  (ho : o.op = .call { callee := .builtin .append, args := #[s, x], argTypes := #[t, t] })
  (base : Nat) (v : Value) (n : Nat) (xs : List Value) (hs : a.eval s = v) (hown : w.ownsRow base e 1 v n xs)
  (g c : Nat) (te : TypeId) (u : Value) (hx : a.eval x = .slice (some ⟨g, 0, none⟩) 1 c) (hblk : Blk w g te #[u]) (hu : u.oneCell' = true) (hb : (n + 1) * bytes ≤ 140737488355328) (hn : n < 140737488355328) (hbase : base ≤ w.heap.size)
  (h : ∀ v' w', AppPost base e v n 1 (xs ++ [u]) v' w w' → wpList Try.prog ops Q rest (a.put o.dst v') w') : wpList Try.prog ops Q (o :: rest) a w :=
 wpList_plain hgd fun _ hK => wp_app1 w s x t e z bytes ht hinfo hzs ho base v n xs hs hown g c te u hx hblk hu hb hn hbase fun v' w' hp => hK _ _ (h v' w' hp)

/-- An owned row's block is not one of another element type. -/
theorem own_ne {w : World} {base : Nat} {e t : TypeId} {n g : Nat} {v : Value} {xs : List Value} {cs : Array Value} (h : w.ownsRow base e 1 v n xs) (hg : Blk w g t cs) (hne : e ≠ t) : v.ownBlock ≠ some g := by
 rcases h.2 with ⟨rfl, _⟩ | ⟨g', cap, cur, rfl, _, hh, _⟩
 ·
  simp [Value.ownBlock]
 ·
  intro he
  have : g' = g := by simpa [Value.ownBlock] using he
  subst this
  unfold Blk at hg
  rw [hg] at hh
  injection hh with hh
  injection hh with _ ht
  exact hne ht.symm
theorem own_base {w : World} {base : Nat} {e : TypeId} {n : Nat} {v : Value} {xs : List Value} (h : w.ownsRow base e 1 v n xs) : ∀ k, v.ownBlock = some k → base ≤ k := fun k hk => (h.lt k hk).1
theorem grown_blk {w w' : World} {row : Option Nat} {g : Nat} {t : TypeId} {cs : Array Value} (hg : w.grownBy w' row) (h : Blk w g t cs) (hne : row ≠ some g) : Blk w' g t cs :=
 (hg.block g h.lt (fun e => hne e.symm)).trans h
end Go.Proofs.Ytboglaokdgnpaaa
/- A new slice of given bytes ([]byte{..}), as a law at the operation. -/
namespace Go.Proofs.Ytboglaokdgnpaaa
open Go Go.RowKit Gf

theorem wpList_bslice {P : Program} (w : World) {ops : Array Oper} {rest : List Oper} {o : Oper} {a : Act} {Q : Exit → Act → World → Prop} (hg : o.guard = none) (t te : TypeId) (n : Nat) (parts : Array (Nat × Operand)) (hop : o.op = .buildSlice t n parts) (ps : Array (Nat × Value)) (hps : (parts.map fun (i, x) => (i, a.eval x)) = ps) (l : List Value)
  (hr : (Instr.buildSlice t n ps).run P w = .ok (.slice (some ⟨w.heap.size, 0, none⟩) n n) (w.alloc (.cells l.toArray te)))
  (h : ∀ w', BL w' w.heap.size te l → Below w.heap.size w w' → w'.heap.size = w.heap.size + 1 → wpList P ops Q rest (a.put o.dst (.slice (some ⟨w.heap.size, 0, none⟩) n n)) w') : wpList P ops Q (o :: rest) a w :=
 wpList_plain hg fun K hK => by
  unfold Oper.wp execOp
  simp only [hop, hps]
  simp [hr, Result.andThen]
  exact hK _ _ (h _ (BL.new w te l) ((Below.refl _ _).alloc (Nat.le_refl _) _) (by simp))
/-- make([]T, k, n), T of one cell. -/
theorem wpList_mk {P : Program} (w : World) {ops : Array Oper} {rest : List Oper} {o : Oper} {a : Act} {Q : Exit → Act → World → Prop} (hg : o.guard = none) (t te : TypeId) (x y : Operand) (hop : o.op = .makeSlice t x y) (zv : Value) (bytes : Nat) (ht : P.underlying t = some (.slice te))
  (hinfo : (P.info? te).map (fun i => (i.zero, i.size, i.bytes)) = some (some zv, 1, bytes)) (hz1 : zv.cells = #[zv]) (k n : Nat) (zx zy : Int) (hx : a.eval x = .int .i64 zx) (hy : a.eval y = .int .i64 zy) (hzx : zx = (k : Int)) (hzy : zy = (n : Int)) (hk : k ≤ n) (hb : bytes * n ≤ 281474976710656) (hn : n ≤ 9223372036854775807)
  (h : ∀ w', BL w' w.heap.size te (List.replicate n zv) → Below w.heap.size w w' → w'.heap.size = w.heap.size + 1 → wpList P ops Q rest (a.put o.dst (.slice (some ⟨w.heap.size, 0, none⟩) k n)) w') : wpList P ops Q (o :: rest) a w :=
 wpList_plain hg fun K hK => by
  subst hzx hzy
  obtain ⟨i, hi, hz, hs, hby⟩ := info_parts hinfo
  have hbb : (i.bytes : Int) * (n : Int) ≤ 281474976710656 := by rw [hby, ← Int.natCast_mul]; exact Int.ofNat_le.2 hb
  have hr := run_make (P := P) w t te i zv ht hi hz .i64 .i64 (k : Int) (n : Int) (by omega) (by omega) hbb (by omega)
  rw [hs, hz1] at hr
  simp only [Int.toNat_natCast, Nat.mul_one, made_one] at hr
  unfold Oper.wp execOp
  simp only [hop, hx, hy]
  simp [hr, Result.andThen]
  exact hK _ _ (h _ (BL.new w te _) ((Below.refl _ _).alloc (Nat.le_refl _) _) (by simp))

/-- A byte slice of the call's own over a block known whole. -/
theorem BL.bs {w : World} {g : Nat} {t : TypeId} {l : List UInt8} (h : BL w g t (l.map B)) {n : Nat} (hn : l.length = n) (hl : n ≤ lim) : BS w (some ⟨g, 0, none⟩) n n l :=
 ⟨hn, Nat.le_refl _, hl, fun k hk => ⟨g, 0, rfl, by
  rw [Nat.zero_add]
  refine h.get ?_
  rw [List.getElem?_map, List.getElem?_eq_getElem (by omega)]
  show some (B _) = some (B (gB l k))
  rw [gB_eq (by omega)]⟩⟩
/-- .. as an owned row. -/
theorem BL.own {w : World} {g base : Nat} {t : TypeId} {l : List Value} (h : BL w g t l) (hg : base ≤ g) {n : Nat} (hn : l.length = n) (hl : n ≤ lim) : w.ownsRow base t 1 (.slice (some ⟨g, 0, none⟩) n n) n l := by
 unfold lim at hl
 refine ⟨by omega, .inr ⟨g, n, l.toArray, rfl, hg, h, Nat.le_refl _, by unfold maxLen; omega, by simp [hn], ?_⟩⟩
 simp [← hn]
theorem AppPost.own {base : Nat} {e : TypeId} {v : Value} {n m : Nat} {xs : List Value} {v' : Value} {w w' : World} (h : AppPost base e v n m xs v' w w') : w'.ownsRow base e 1 v' (n + m) xs := h.1
/-- An append is no change of what is old. -/
theorem AppPost.below {base B : Nat} {e : TypeId} {v : Value} {n m : Nat} {xs ys : List Value} {v' : Value} {w0 w w' : World} (h : AppPost base e v n m xs v' w w') (ho : w.ownsRow base e 1 v n ys) (hb : Below B w0 w) (hB : B ≤ base) (hs : B ≤ w.heap.size) : Below B w0 w' :=
 hb.grown h.2.1 hs (fun b hb' => Nat.le_trans hB (own_base ho b hb'))
theorem AppPost.kp {base : Nat} {e : TypeId} {v : Value} {n m : Nat} {xs ys : List Value} {v' : Value} {S : Nat → Prop} {w0 w w' : World} (h : AppPost base e v n m xs v' w w') (ho : w.ownsRow base e 1 v n ys) (hb : Kp S w0 w) (hB : w0.heap.size ≤ base) : Kp S w0 w' :=
 hb.grown h.2.1 (fun k hk => .inr (Nat.le_trans hB (own_base ho k hk)))
theorem own_form {w : World} {base n : Nat} {e : TypeId} {v : Value} {xs : List Value} (h : w.ownsRow base e 1 v n xs) (hn : 0 < n) : ∃ g cap, v = .slice (some ⟨g, 0, none⟩) n cap := by
 rcases h.2 with ⟨_, h0⟩ | ⟨g, cap, _, rfl, _⟩
 ·
  omega
 ·
  exact ⟨g, cap, rfl⟩
/-- Behind an append of some elements: the value written out. -/
theorem AppPost.form {base : Nat} {e : TypeId} {v : Value} {n m : Nat} {xs : List Value} {v' : Value} {w w' : World} (h : AppPost base e v n m xs v' w w') (hn : 0 < n + m) : ∃ g cap, v' = .slice (some ⟨g, 0, none⟩) (n + m) cap := own_form h.1 hn
/-- A block of another element type stays. -/
theorem AppPost.bl {base : Nat} {e : TypeId} {v : Value} {n m : Nat} {xs ys l : List Value} {v' : Value} {w w' : World} {g : Nat} {t : TypeId} (h : AppPost base e v n m xs v' w w') (ho : w.ownsRow base e 1 v n ys) (hb : BL w g t l) (hne : e ≠ t) : BL w' g t l :=
 grown_blk h.2.1 hb (own_ne ho hb hne)
end Go.Proofs.Ytboglaokdgnpaaa
/- copy of bytes into a part of a block; []byte(s) and string(b). -/
namespace Go.Proofs.Ytboglaokdgnpaaa
open Go Go.RowKit Gf

section
variable {P : Program} (w : World)
end

/-- The string of bytes. -/
def strB (l : List UInt8) : ByteArray := ⟨l.toArray⟩
theorem strB_inj {l l' : List UInt8} (h : strB l = strB l') : l = l' := by
 unfold strB at h
 injection h with h
 simpa using congrArg Array.toList h
theorem strB_list (l : List UInt8) : (strB l).toList = l := by rw [ByteArray.toList_eq]; rfl
theorem strB_of (s : ByteArray) : strB s.data.toList = s := rfl
theorem strB_size (l : List UInt8) : (strB l).size = l.length := rfl
theorem strB_eq (l l' : List UInt8) : ((strB l).toList == (strB l').toList) = decide (l = l') := by
 rw [strB_list, strB_list]
 by_cases h : l = l'
 ·
  simp [h]
 ·
  simp [h]
theorem strB_nums (l : List UInt8) : strOfNums (l.map bv) = strB l := by
 unfold strOfNums strB
 congr 2
 rw [List.map_map]
 conv => rhs; rw [← List.map_id l]
 apply List.map_congr_left
 intro x _
 simp [bv]
theorem conv_str {w : World} {A : Option Addr} {n c : Nat} {l : List UInt8} (h : BS w A n c l) :
  (convert 114 9 (.slice A n c)).run Try.prog w = .ok (.string (strB l)) w := by
 cases A with
 | none =>
  have h0 : n = 0 := by
   rcases Nat.eq_zero_or_pos n with h0 | h0
   ·
    exact h0
   ·
    obtain ⟨g, o, e, _⟩ := h.2.2.2 0 h0
    cases e
  have hl : l = [] := List.eq_nil_of_length_eq_zero (by rw [h.1, h0])
  rw [run_convert_bytes_nil w _ _ Try.underlying114 Try.underlying5 n c _ Try.underlying9, hl]
  rfl
 | some a =>
  by_cases h0 : n = 0
  ·
   have hl : l = [] := List.eq_nil_of_length_eq_zero (by rw [h.1, h0])
   subst h0 hl
   refine (run_convert_bytes_string w 114 9 5 (some a) 0 c Try.underlying114 Try.underlying5 Try.underlying9).trans ?_
   exact run_bytesToString w a 0 c [] (run_loadCells_list (P := Try.prog) w a [] (fun j v hj => by simp at hj))
  ·
   obtain ⟨g, o, e, _⟩ := h.2.2.2 0 (by omega)
   obtain rfl := Option.some.inj e
   rw [run_convert_bytes_arg w _ _ Try.underlying114 Try.underlying5 g o n c (l.map bv) (by simp [h.1]) (fun i hi => by
    obtain ⟨g', o', e', hc⟩ := h.2.2.2 i hi
    cases Option.some.inj e'
    have hl : i < l.length := by rw [h.1]; exact hi
    rw [hc]
    show some (B (gB l i)) = _
    rw [gB_eq hl, B]
    simp [List.getD, List.getElem?_eq_getElem hl]) _ Try.underlying9, strB_nums]

/-- Behind '[]byte(s)': the bytes, perhaps more cells, and the mark behind the last one. -/
def Conv (w : World) (l : List UInt8) (w' : World) (cap : Nat) : Prop :=
 w'.heap[w.heap.size]? = some (.cells (bytesRow (strB l) cap) 5 ((bytesRow (strB l) cap).size, (bytesRow (strB l) cap).size + 1)) ∧ l.length ≤ cap ∧ Below w.heap.size w w' ∧ w'.heap.size = w.heap.size + 1
theorem Conv.bs {w w' : World} {l : List UInt8} {cap : Nat} (h : Conv w l w' cap) (hl : l.length ≤ lim) : BS w' (some ⟨w.heap.size, 0, none⟩) l.length cap l :=
 ⟨rfl, h.2.1, hl, fun k hk => ⟨w.heap.size, 0, rfl, by
  rw [Nat.zero_add, cell_of_row w' w.heap.size k _ _ _ h.1, bytesRow_at (strB l) cap k (by show k < l.length; exact hk)]
  show _ = some (B (gB l k))
  rw [gB_eq hk]; rfl⟩⟩
end Go.Proofs.Ytboglaokdgnpaaa
/- append onto a byte slice that is full: the result is a row of the call's own. []byte("..") of a constant. Strings as sources. -/
namespace Go.Proofs.Ytboglaokdgnpaaa
open Go Go.RowKit Gf

theorem BS.firstCells {P : Program} {w : World} {A : Option Addr} {n c : Nat} {l : List UInt8} (h : BS w A n c l) : (Builtin.firstCells 1 n (.slice A n c)).run P w = .ok (l.map B).toArray w := by
 cases A with
 | none =>
  have h0 : n = 0 := by
   rcases Nat.eq_zero_or_pos n with h0 | h0
   ·
    exact h0
   ·
    obtain ⟨g, o, e, _⟩ := h.2.2.2 0 h0
    cases e
  have hl : l = [] := List.eq_nil_of_length_eq_zero (by rw [h.1, h0])
  subst hl
  simp [Builtin.firstCells]
 | some a =>
  have hl := run_loadCells_list (P := P) w a (l.map B) (fun j v hv => by
   obtain ⟨hj, hv2⟩ := List.getElem?_eq_some_iff.1 hv
   rw [List.length_map] at hj
   obtain ⟨g', o', e, hc⟩ := h.2.2.2 j (by rw [← h.1]; exact hj)
   obtain rfl := Option.some.inj e
   rw [addr_add, hc]
   show some (B (gB l j)) = _
   rw [gB_eq hj, ← hv2]
   simp)
  rw [List.length_map, h.1] at hl
  simp [Builtin.firstCells, hl]

section
variable (w : World) {ops : Array Oper} {rest : List Oper} {o : Oper} {a : Act} {Q : Exit → Act → World → Prop}
end

/-- The groups of a number (f: more than there are). -/
def uvf : Nat → Nat → List UInt8
 | 0, n => [UInt8.ofNat n]
 | f + 1, n => if n < 128 then [UInt8.ofNat n] else (UInt8.ofNat n ||| 128) :: uvf f (n >>> 7)
def uv (n : Nat) : List UInt8 := uvf 10 n
end Go.Proofs.Ytboglaokdgnpaaa
