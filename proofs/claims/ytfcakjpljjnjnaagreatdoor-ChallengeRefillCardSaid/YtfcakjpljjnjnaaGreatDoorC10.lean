/- Several texts in one: Rr, Tkr, Rbc. -/
import Derived.Test.YtfcakjpljjnjnaaGreatDoorC3
import Derived.Test.YtfcakjpljjnjnaaGreatDoorC1
import Derived.Deep.QuietTactic
import Derived.BigQuiet
import Derived.Test.YtfcakjpljjnjnaaGreatDoorC9
import Derived.Test.YtfcakjpljjnjnaaGreatDoorC7
import Derived.Test.YtfcakjpljjnjnaaGreatDoorC5
/- Contract of ref03.rotr at the rotations that SHA-256 takes. -/
namespace Go.Proofs.YtfcakjpljjnjnaaGreatDoor
open Go.RowKit Gf Sha

theorem rot_w' (x : UInt32) (n : Nat) (h0 : 0 < n) (h : n < 32) : bits .or .u32 (wv x / 2 ^ n) (wv x * 2 ^ (32 - n) % 4294967296) = wv (rr x (UInt32.ofNat n)) := by
 rw [← rot_w x n h0 h, shl_w x (32 - n) (by omega), shr_w x n h, or_w, or_w, UInt32.or_comm]

theorem orr_2 (x : UInt32) : bits .or .u32 (wv x / 4) (wv x * 1073741824 % 4294967296) = wv (rr x 2) := rot_w' x 2 (by decide) (by decide)
theorem orr_6 (x : UInt32) : bits .or .u32 (wv x / 64) (wv x * 67108864 % 4294967296) = wv (rr x 6) := rot_w' x 6 (by decide) (by decide)
theorem orr_7 (x : UInt32) : bits .or .u32 (wv x / 128) (wv x * 33554432 % 4294967296) = wv (rr x 7) := rot_w' x 7 (by decide) (by decide)
theorem orr_11 (x : UInt32) : bits .or .u32 (wv x / 2048) (wv x * 2097152 % 4294967296) = wv (rr x 11) := rot_w' x 11 (by decide) (by decide)
theorem orr_13 (x : UInt32) : bits .or .u32 (wv x / 8192) (wv x * 524288 % 4294967296) = wv (rr x 13) := rot_w' x 13 (by decide) (by decide)
theorem orr_17 (x : UInt32) : bits .or .u32 (wv x / 131072) (wv x * 32768 % 4294967296) = wv (rr x 17) := rot_w' x 17 (by decide) (by decide)
theorem orr_18 (x : UInt32) : bits .or .u32 (wv x / 262144) (wv x * 16384 % 4294967296) = wv (rr x 18) := rot_w' x 18 (by decide) (by decide)
theorem orr_19 (x : UInt32) : bits .or .u32 (wv x / 524288) (wv x * 8192 % 4294967296) = wv (rr x 19) := rot_w' x 19 (by decide) (by decide)
theorem orr_22 (x : UInt32) : bits .or .u32 (wv x / 4194304) (wv x * 1024 % 4294967296) = wv (rr x 22) := rot_w' x 22 (by decide) (by decide)
theorem orr_25 (x : UInt32) : bits .or .u32 (wv x / 33554432) (wv x * 128 % 4294967296) = wv (rr x 25) := rot_w' x 25 (by decide) (by decide)
attribute [local go_sem] orr_2 orr_6 orr_7 orr_11 orr_13 orr_17 orr_18 orr_19 orr_22 orr_25
theorem rr2_any (x : UInt32) (w : World) :
  Calls Tryz.prog 149 #[W x, .int .i64 2] w fun e w' => e = .returned (W (rr x 2)) ∧ ∃ m, w' = w.drewN m := by
 go_enter Tryz.func149, Tryz.ntmps149
 go_wp2_with fail
 go_quiet (fail)
 go_wp2_with fail
 go_ret
 exact ⟨rfl, _, rfl⟩
theorem rr6_any (x : UInt32) (w : World) :
  Calls Tryz.prog 149 #[W x, .int .i64 6] w fun e w' => e = .returned (W (rr x 6)) ∧ ∃ m, w' = w.drewN m := by
 go_enter Tryz.func149, Tryz.ntmps149
 go_wp2_with fail
 go_quiet (fail)
 go_wp2_with fail
 go_ret
 exact ⟨rfl, _, rfl⟩
theorem rr7_any (x : UInt32) (w : World) :
  Calls Tryz.prog 149 #[W x, .int .i64 7] w fun e w' => e = .returned (W (rr x 7)) ∧ ∃ m, w' = w.drewN m := by
 go_enter Tryz.func149, Tryz.ntmps149
 go_wp2_with fail
 go_quiet (fail)
 go_wp2_with fail
 go_ret
 exact ⟨rfl, _, rfl⟩
theorem rr11_any (x : UInt32) (w : World) :
  Calls Tryz.prog 149 #[W x, .int .i64 11] w fun e w' => e = .returned (W (rr x 11)) ∧ ∃ m, w' = w.drewN m := by
 go_enter Tryz.func149, Tryz.ntmps149
 go_wp2_with fail
 go_quiet (fail)
 go_wp2_with fail
 go_ret
 exact ⟨rfl, _, rfl⟩
theorem rr13_any (x : UInt32) (w : World) :
  Calls Tryz.prog 149 #[W x, .int .i64 13] w fun e w' => e = .returned (W (rr x 13)) ∧ ∃ m, w' = w.drewN m := by
 go_enter Tryz.func149, Tryz.ntmps149
 go_wp2_with fail
 go_quiet (fail)
 go_wp2_with fail
 go_ret
 exact ⟨rfl, _, rfl⟩
theorem rr17_any (x : UInt32) (w : World) :
  Calls Tryz.prog 149 #[W x, .int .i64 17] w fun e w' => e = .returned (W (rr x 17)) ∧ ∃ m, w' = w.drewN m := by
 go_enter Tryz.func149, Tryz.ntmps149
 go_wp2_with fail
 go_quiet (fail)
 go_wp2_with fail
 go_ret
 exact ⟨rfl, _, rfl⟩
theorem rr18_any (x : UInt32) (w : World) :
  Calls Tryz.prog 149 #[W x, .int .i64 18] w fun e w' => e = .returned (W (rr x 18)) ∧ ∃ m, w' = w.drewN m := by
 go_enter Tryz.func149, Tryz.ntmps149
 go_wp2_with fail
 go_quiet (fail)
 go_wp2_with fail
 go_ret
 exact ⟨rfl, _, rfl⟩
theorem rr19_any (x : UInt32) (w : World) :
  Calls Tryz.prog 149 #[W x, .int .i64 19] w fun e w' => e = .returned (W (rr x 19)) ∧ ∃ m, w' = w.drewN m := by
 go_enter Tryz.func149, Tryz.ntmps149
 go_wp2_with fail
 go_quiet (fail)
 go_wp2_with fail
 go_ret
 exact ⟨rfl, _, rfl⟩
theorem rr22_any (x : UInt32) (w : World) :
  Calls Tryz.prog 149 #[W x, .int .i64 22] w fun e w' => e = .returned (W (rr x 22)) ∧ ∃ m, w' = w.drewN m := by
 go_enter Tryz.func149, Tryz.ntmps149
 go_wp2_with fail
 go_quiet (fail)
 go_wp2_with fail
 go_ret
 exact ⟨rfl, _, rfl⟩
theorem rr25_any (x : UInt32) (w : World) :
  Calls Tryz.prog 149 #[W x, .int .i64 25] w fun e w' => e = .returned (W (rr x 25)) ∧ ∃ m, w' = w.drewN m := by
 go_enter Tryz.func149, Tryz.ntmps149
 go_wp2_with fail
 go_quiet (fail)
 go_wp2_with fail
 go_ret
 exact ⟨rfl, _, rfl⟩
end Go.Proofs.YtfcakjpljjnjnaaGreatDoor
/- Rows of elements of many cells: tokens. Plain, but for the words on memory. -/
namespace Go.Proofs.YtfcakjpljjnjnaaGreatDoor
open Go Go.RowKit Gf

section
variable {α : Type} {f : α → List Value} {s : Nat}
theorem flat_length (hf : ∀ x, (f x).length = s) (l : List α) : (l.flatMap f).length = l.length * s := by
 induction l with
 | nil => simp
 | cons x l ih => rw [List.flatMap_cons, List.length_append, hf, ih, List.length_cons, Nat.succ_mul]; omega
theorem flat_split (l : List α) (k : Nat) (h : k < l.length) : l.flatMap f = (l.take k).flatMap f ++ f l[k] ++ (l.drop (k + 1)).flatMap f := by
 conv => lhs; rw [← List.take_append_drop k l, List.drop_eq_getElem_cons h]
 rw [List.flatMap_append, List.flatMap_cons, List.append_assoc]
theorem splice_mid (A X C vs : List Value) (o : Nat) (ho : o = A.length) (h : vs.length = X.length) : splice (A ++ X ++ C) o vs = A ++ vs ++ C := by
 subst ho
 unfold splice
 have e1 : (A ++ X ++ C).take A.length = A := by rw [List.append_assoc, List.take_left]
 have e2 : (A ++ X ++ C).drop (A.length + vs.length) = C := by rw [h, ← List.length_append, List.drop_left]
 rw [e1, e2]
theorem flat_splice (hf : ∀ x, (f x).length = s) (l : List α) (k : Nat) (h : k < l.length) (x : α) : splice (l.flatMap f) (k * s) (f x) = (l.set k x).flatMap f := by
 have h2 : (l.set k x).length = l.length := List.length_set
 rw [flat_split (f := f) l k h, flat_split (f := f) (l.set k x) k (by omega), List.getElem_set_self, List.take_set_of_le (Nat.le_refl _), List.drop_set_of_lt (by omega)]
 exact splice_mid _ _ _ _ _ (by rw [flat_length hf, List.length_take, Nat.min_eq_left (by omega)]) (by rw [hf, hf])
theorem BL.elem {w : World} {g : Nat} {t : TypeId} {l : List α} (hf : ∀ x, (f x).length = s) (h : BL w g t (l.flatMap f)) {k : Nat} (hk : k < l.length) : At w g (k * s) (f l[k]) := by
 rw [flat_split (f := f) l k hk] at h
 exact BL.at_ h (by rw [flat_length hf, List.length_take, Nat.min_eq_left (by omega)])
end

theorem madeCells_flat (z : List Value) (n : Nat) (hz : z ≠ []) : madeCells z.toArray (n * z.length) = ((List.replicate n ()).flatMap fun _ => z).toArray := by
 have hl : ((List.replicate n ()).flatMap fun _ => z).length = n * z.length := by rw [flat_length (s := z.length) (fun _ => rfl), List.length_replicate]
 have hz0 : 0 < z.length := List.length_pos_iff.2 hz
 apply Array.ext'
 rw [madeCells, Array.toList_map, Array.toList_range]
 apply List.ext_getElem?
 intro i
 by_cases hi : i < n * z.length
 ·
  rw [List.getElem?_map, List.getElem?_range hi]
  have hk : i / z.length < n := Nat.div_lt_of_lt_mul (by rw [Nat.mul_comm]; exact hi)
  have hs := flat_split (f := fun _ : Unit => z) (List.replicate n ()) (i / z.length) (by rw [List.length_replicate]; exact hk)
  have h1 : (((List.replicate n ()).take (i / z.length)).flatMap fun _ => z).length = i / z.length * z.length := by rw [flat_length (s := z.length) (fun _ => rfl), List.length_take, List.length_replicate, Nat.min_eq_left (by omega)]
  have hdm := Nat.div_add_mod i z.length
  have hm := Nat.mod_lt i hz0
  rw [Nat.mul_comm] at hdm
  rw [List.toList_toArray, hs, List.append_assoc, List.getElem?_append_right (by omega), h1, List.getElem?_append_left (by omega), show i - i / z.length * z.length = i % z.length by omega]
  simp [hm]
 ·
  rw [List.getElem?_eq_none (by simp; omega), List.getElem?_eq_none (by rw [List.toList_toArray, hl]; omega)]

/-- make([]T, k, n), T of many cells. -/
theorem wpList_mkv {P : Program} (w : World) {ops : Array Oper} {rest : List Oper} {o : Oper} {a : Act} {Q : Exit → Act → World → Prop} (hg : o.guard = none) (t te : TypeId) (x y : Operand) (hop : o.op = .makeSlice t x y) (z : List Value) (hz : z ≠ []) (bytes : Nat) (ht : P.underlying t = some (.slice te))
  (hinfo : (P.info? te).map (fun i => (i.zero, i.size, i.bytes)) = some (some (.agg z.toArray), z.length, bytes)) (k n : Nat) (zx zy : Int) (hx : a.eval x = .int .i64 zx) (hy : a.eval y = .int .i64 zy) (hzx : zx = (k : Int)) (hzy : zy = (n : Int)) (hk : k ≤ n) (hb : bytes * n ≤ 281474976710656) (hn : n ≤ 9223372036854775807)
  (h : ∀ w', BL w' w.heap.size te ((List.replicate n ()).flatMap fun _ => z) → Below w.heap.size w w' → w'.heap.size = w.heap.size + 1 → wpList P ops Q rest (a.put o.dst (.slice (some ⟨w.heap.size, 0, none⟩) k n)) w') : wpList P ops Q (o :: rest) a w :=
 wpList_plain hg fun K hK => by
  subst hzx hzy
  obtain ⟨i, hi, hzz, hs, hby⟩ := info_parts hinfo
  have hbb : (i.bytes : Int) * (n : Int) ≤ 281474976710656 := by rw [hby, ← Int.natCast_mul]; exact Int.ofNat_le.2 hb
  have hr := run_make (P := P) w t te i _ ht hi hzz .i64 .i64 (k : Int) (n : Int) (by omega) (by omega) hbb (by omega)
  rw [hs] at hr
  simp only [Int.toNat_natCast, Value.cells, madeCells_flat z n hz] at hr
  unfold Oper.wp execOp
  simp only [hop, hx, hy]
  simp [hr, Result.andThen]
  exact hK _ _ (h _ (BL.new w te _) ((Below.refl _ _).alloc (Nat.le_refl _) _) (by simp))

section
variable {P : Program} {w : World} {o : Oper} {a : Act} {Q : Exit → Act → World → Prop} {K : Act → World → Prop}
theorem wp_storev (t : TypeId) (x y : Operand) (hop : o.op = .store t x y) (n : Nat) (ht : Agg P t n = true) (g p : Nat) (te : TypeId) (l vs : List Value) (hx : a.eval x = .pointer (some ⟨g, p, none⟩)) (hy : a.eval y = .agg vs.toArray)
  (hb : BL w g te l) (hn : vs.length = n) (h1 : ∀ v ∈ vs, v.oneCell' = true) (ho : p + n ≤ l.length)
  (h : ∀ w', BL w' g te (splice l p vs) → Kp (· = g) w w' → w'.heap.size = w.heap.size → K (a.put o.dst undef) w') : o.wp P a w K Q := by
 obtain ⟨w', hr, h2, h3, h4⟩ := run_storeAt w ht hb hn h1 ho
 unfold Oper.wp execOp
 simp only [hop, hx, hy]
 simp [hr, Result.andThen]
 exact h w' h2 h3 h4
end
theorem Tk.cells_length (t : Tk) : t.cells.length = 4 := rfl
theorem Tk.one (t : Tk) : ∀ v ∈ t.cells, v.oneCell' = true := by
 intro v hv
 simp only [Tk.cells, List.mem_cons, List.not_mem_nil, or_false] at hv
 rcases hv with rfl | rfl | rfl | rfl <;> rfl
/-- A slice of tokens. -/
def TkS (w : World) (A : Option Addr) (n c : Nat) (l : List Tk) : Prop :=
 l.length = n ∧ n ≤ c ∧ n * 64 ≤ lim ∧ ∀ k, (h : k < l.length) → ∃ g o, A = some ⟨g, o, none⟩ ∧ At w g (o + k * 4) l[k].cells
theorem TkS.kept {w w' : World} {A : Option Addr} {n c : Nat} {l : List Tk} (h : TkS w A n c l) (hb : Below w.heap.size w w') : TkS w' A n c l :=
 ⟨h.1, h.2.1, h.2.2.1, fun k hk => let ⟨g, o, e, hc⟩ := h.2.2.2 k hk; ⟨g, o, e, hc.kept hb⟩⟩
theorem TkS.of_blk {w : World} {g : Nat} {t : TypeId} {l : List Tk} (h : BL w g t (l.flatMap Tk.cells)) {n : Nat} (hn : l.length = n) (hl : n * 64 ≤ lim) : TkS w (some ⟨g, 0, none⟩) n n l :=
 ⟨hn, Nat.le_refl _, hl, fun k hk => ⟨g, 0, rfl, by rw [Nat.zero_add]; exact BL.elem Tk.cells_length h hk⟩⟩
end Go.Proofs.YtfcakjpljjnjnaaGreatDoor
/- Contract of ref03.constants. -/
namespace Go.Proofs.YtfcakjpljjnjnaaGreatDoor
open Go Go.RowKit Gf Sha

theorem zero64 : (Tryz.prog.info? 199).map (·.zero) = some (some (.agg (List.replicate 64 (Value.int .u32 0)).toArray)) := by kernel_rfl
theorem zero8 : (Tryz.prog.info? 153).map (·.zero) = some (some (.agg (List.replicate 8 (Value.int .u32 0)).toArray)) := by kernel_rfl
theorem ks_vals : (ks.map W).toArray = #[.int .u32 1116352408, .int .u32 1899447441, .int .u32 3049323471, .int .u32 3921009573, .int .u32 961987163, .int .u32 1508970993, .int .u32 2453635748, .int .u32 2870763221, .int .u32 3624381080, .int .u32 310598401, .int .u32 607225278, .int .u32 1426881987, .int .u32 1925078388, .int .u32 2162078206, .int .u32 2614888103, .int .u32 3248222580, .int .u32 3835390401, .int .u32 4022224774, .int .u32 264347078, .int .u32 604807628, .int .u32 770255983, .int .u32 1249150122, .int .u32 1555081692, .int .u32 1996064986, .int .u32 2554220882, .int .u32 2821834349, .int .u32 2952996808, .int .u32 3210313671, .int .u32 3336571891, .int .u32 3584528711, .int .u32 113926993, .int .u32 338241895, .int .u32 666307205, .int .u32 773529912, .int .u32 1294757372, .int .u32 1396182291, .int .u32 1695183700, .int .u32 1986661051, .int .u32 2177026350, .int .u32 2456956037, .int .u32 2730485921, .int .u32 2820302411, .int .u32 3259730800, .int .u32 3345764771, .int .u32 3516065817, .int .u32 3600352804, .int .u32 4094571909, .int .u32 275423344, .int .u32 430227734, .int .u32 506948616, .int .u32 659060556, .int .u32 883997877, .int .u32 958139571, .int .u32 1322822218, .int .u32 1537002063, .int .u32 1747873779, .int .u32 1955562222, .int .u32 2024104815, .int .u32 2227730452, .int .u32 2361852424, .int .u32 2428436474, .int .u32 2756734187, .int .u32 3204031479, .int .u32 3329325298] := by kernel_rfl
theorem ks_one : ∀ v ∈ ks.map W, v.oneCell' = true := by
 intro v hv
 obtain ⟨x, _, rfl⟩ := List.mem_map.1 hv
 rfl

theorem results_cell1 {fn : Func} {a : Tmp} {t : TypeId} (h : fn.results = #[.cell a t]) {tmps : Array Value} {P : Program} {w : World} {g o n : Nat} {ms : List Value} (hp : tmps.getD a undef = .pointer (some ⟨g, o, none⟩)) (ht : Agg P t n = true) (hm : At w g o ms) (hn : ms.length = n) :
  (results fn tmps).run P w = .ok (.agg ms.toArray) w := by
 have hl := run_loadCells_list (P := P) w ⟨g, o, none⟩ ms (fun j v hv => by rw [addr_add]; exact hm j v hv)
 rw [hn] at hl
 have hp' : tmps[a]?.getD undef = .pointer (some ⟨g, o, none⟩) := by simpa using hp
 simp [results, h, hp', asAddr, loadVar, Sem.run_bind, agg_isAgg w ht, agg_size w ht, hl]

set_option maxRecDepth 100000 in
set_option maxHeartbeats 4000000 in
theorem constants_any (w : World) : Calls Tryz.prog 148 #[] w fun e w' => e = .returned (.agg (ks.map W).toArray) ∧ Below w.heap.size w w' := by
 go_enter Tryz.func148, Tryz.ntmps148
 go_wp2_with (first
  | ((with_reducible show OpW 0); refine wpList_alloc _ rfl 199 rfl (List.replicate 64 (.int .u32 0)) zero64 ?_; intro w1 a1 a2 a3; have HG1 := Lib.hid a1; have HB1 := Lib.hid a2; clear a1 a2 a3)
  | ((with_reducible show OpN); refine wpList_storev _ rfl 199 (.tmp 0) (.tmp 1) rfl 64 (by kernel_rfl) w.heap.size 0 _ (List.replicate 64 (.int .u32 0)) (ks.map W) rfl (by rw [ks_vals]; rfl) HG1.out rfl ks_one (by decide) ?_; intro w2 a1 a2 a3; rw [splice_all (List.replicate 64 (.int .u32 0)) (ks.map W) rfl] at a1; have HG2 := Lib.hid a1; have HB2 : Hid (Below w.heap.size w w2) := Lib.hid (((Kp.of_below (S := fun _ => False) HB1.out).after a2 (fun i hi e => by omega)).below (Nat.le_refl _) (fun _ h => h.elim)); clear a1 a2 a3))
 (try simp only [Exit.inBlock, Exit.then])
 exact bodyPost_ret (results_cell1 (n := 64) rfl rfl (by kernel_rfl) (BL.all HG2.out) rfl) rfl ⟨rfl, HB2.out⟩
end Go.Proofs.YtfcakjpljjnjnaaGreatDoor
