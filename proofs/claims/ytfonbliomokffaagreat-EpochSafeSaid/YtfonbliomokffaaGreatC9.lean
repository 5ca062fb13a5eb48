/- Several texts in one: Er. -/
import Derived.Test.YtfonbliomokffaaGreatC8
import Derived.Test.YtfonbliomokffaaGreatShelf
/- How entries and proposals lie in memory. -/
namespace Go.Proofs.YtfonbliomokffaaGreat
open Go Go.ChangeShapes Go.WideShapes Go.ChangeAt Go.RowKit Gf Sha

/-- An entry. -/
structure En where
  dev : Int
  seq : Int
  kind : Int
  day : Int
  body : List UInt8
  prev : List UInt8
/-- A proposal. -/
structure Pp where
  dev : Int
  seq : Int
  vault : Int
  ws : List Int
  ss : List (List UInt8)
theorem Pp.eq_of {p q : Pp} (h1 : p.dev = q.dev) (h2 : p.seq = q.seq) (h3 : p.vault = q.vault) (h4 : p.ws = q.ws) (h5 : p.ss = q.ss) : p = q := by
  cases p; cases q; simp only at h1 h2 h3 h4 h5; subst h1 h2 h3 h4 h5; rfl
abbrev enC (x : En) (A : Option Addr) (n c : Nat) : List Value := [.int .i64 x.dev, .int .i64 x.seq, .int .i64 x.kind, .int .i64 x.day, .slice A n c, .string (strB x.prev)]
abbrev ppC (p : Pp) (A1 : Option Addr) (n1 c1 : Nat) (A2 : Option Addr) (n2 c2 : Nat) : List Value := [.int .i64 p.dev, .int .i64 p.seq, .int .i64 p.vault, .slice A1 n1 c1, .slice A2 n2 c2]
def rEn : Rdg En := fun w cs x => ∃ A n c, cs = enC x A n c ∧ BS w A n c x.body ∧ wfI x.dev ∧ wfI x.seq ∧ wfI x.kind ∧ wfI x.day ∧ x.prev.length ≤ reachBytes
def rPp : Rdg Pp := fun w cs p => ∃ A1 n1 c1 A2 n2 c2, cs = ppC p A1 n1 c1 A2 n2 c2 ∧ LS rInt 1 8 w A1 n1 c1 p.ws ∧ LS rStr 1 16 w A2 n2 c2 p.ss ∧ wfI p.dev ∧ wfI p.seq ∧ wfI p.vault
theorem stay_en : Stay rEn := fun _ _ _ _ ⟨A, n, c, e, h, r⟩ hb => ⟨A, n, c, e, h.kept hb, r⟩
theorem stay_pp : Stay rPp := fun _ _ _ _ ⟨A1, n1, c1, A2, n2, c2, e, h1, h2, r⟩ hb => ⟨A1, n1, c1, A2, n2, c2, e, h1.kept stay_int hb, h2.kept stay_str hb, r⟩
theorem len_en {w : World} : ∀ cs x, rEn w cs x → cs.length = 6 := fun cs x ⟨A, n, c, e, _⟩ => by subst e; rfl
theorem len_pp {w : World} : ∀ cs x, rPp w cs x → cs.length = 5 := fun cs x ⟨A, n, c, _, _, _, e, _⟩ => by subst e; rfl
theorem len_int {w : World} : ∀ cs x, rInt w cs x → cs.length = 1 := fun cs x ⟨e, _⟩ => by subst e; rfl
theorem ones_int {w : World} : ∀ cs x, rInt w cs x → ∀ u ∈ cs, u.oneCell' = true := fun cs x ⟨e, _⟩ u hu => by
  subst e; simp only [List.mem_cons, List.not_mem_nil, or_false] at hu; subst hu; rfl
theorem one_en (x : En) (A : Option Addr) (n c : Nat) : ∀ v ∈ enC x A n c, v.oneCell' = true := fun v hv => by
  simp only [List.mem_cons, List.not_mem_nil, or_false] at hv
  rcases hv with rfl | rfl | rfl | rfl | rfl | rfl <;> rfl
theorem one_pp (p : Pp) (A1 : Option Addr) (n1 c1 : Nat) (A2 : Option Addr) (n2 c2 : Nat) : ∀ v ∈ ppC p A1 n1 c1 A2 n2 c2, v.oneCell' = true := fun v hv => by
  simp only [List.mem_cons, List.not_mem_nil, or_false] at hv
  rcases hv with rfl | rfl | rfl | rfl | rfl <;> rfl
theorem ones_en {w : World} : ∀ cs x, rEn w cs x → ∀ u ∈ cs, u.oneCell' = true := fun cs x ⟨A, n, c, e, _⟩ u hu => by subst e; exact one_en _ _ _ _ u hu
theorem ones_pp {w : World} : ∀ cs x, rPp w cs x → ∀ u ∈ cs, u.oneCell' = true := fun cs x ⟨A, n, c, A2, n2, c2, e, _⟩ u hu => by subst e; exact one_pp _ _ _ _ _ _ _ u hu
def enZ : List Value := [.int .i64 0, .int .i64 0, .int .i64 0, .int .i64 0, .slice none 0 0, .string (strB [])]
def ppZ : List Value := [.int .i64 0, .int .i64 0, .int .i64 0, .slice none 0 0, .slice none 0 0]
def pp0 : Pp := ⟨0, 0, 0, [], []⟩
def en0 : En := ⟨0, 0, 0, 0, [], []⟩
theorem wfI0 : wfI 0 := by rfl
theorem rPp_zero (w : World) : rPp w ppZ pp0 := ⟨none, 0, 0, none, 0, 0, rfl, LS.nil, LS.nil, wfI0, wfI0, wfI0⟩
theorem rEn_zero (w : World) : rEn w enZ en0 := ⟨none, 0, 0, rfl, BS.nil, wfI0, wfI0, wfI0, wfI0, Nat.zero_le _⟩
theorem enZero : (Tryz.prog.info? 33).map (·.zero) = some (some (.agg enZ.toArray)) := by kernel_rfl
theorem ppZero : (Tryz.prog.info? 42).map (·.zero) = some (some (.agg ppZ.toArray)) := by kernel_rfl
theorem rpZero : (Tryz.prog.info? 40).map (·.zero) = some (some (.agg ppZ.toArray)) := by kernel_rfl
theorem infoEn : (Tryz.prog.info? 33).map (fun i => (i.zero, i.size, i.bytes)) = some (some (.agg enZ.toArray), 6, 72) := by kernel_rfl
theorem infoPp : (Tryz.prog.info? 42).map (fun i => (i.zero, i.size, i.bytes)) = some (some (.agg ppZ.toArray), 5, 72) := by kernel_rfl
theorem infoRp : (Tryz.prog.info? 40).map (fun i => (i.zero, i.size, i.bytes)) = some (some (.agg ppZ.toArray), 5, 72) := by kernel_rfl
theorem infoI : (Tryz.prog.info? 3).map (fun i => (i.zero, i.size, i.bytes)) = some (some (.int .i64 0), 1, 8) := by kernel_rfl
theorem bslI (z : Int) (w : World) : (Instr.buildSlice 23 1 #[(0, .int .i64 z)]).run Tryz.prog w = .ok (.slice (some ⟨w.heap.size, 0, none⟩) 1 1) (w.alloc (.cells [.int .i64 z].toArray 3)) := by kernel_rfl
theorem bslStr (x : List UInt8) (w : World) : (Instr.buildSlice 27 1 #[(0, .string (strB x))]).run Tryz.prog w = .ok (.slice (some ⟨w.heap.size, 0, none⟩) 1 1) (w.alloc (.cells [.string (strB x)].toArray 9)) := by kernel_rfl
theorem LS.int_at {w w' : World} {A : Option Addr} {n c : Nat} {m : List Int} (h : LS rInt 1 8 w A n c m) (hb : Below w.heap.size w w') {k : Nat} (hk : k < n) :
    ∃ x g o, m[k]? = some x ∧ A = some ⟨g, o, none⟩ ∧ w'.cell? ⟨g, o + k, none⟩ = some (.int .i64 x) := by
  obtain ⟨x, g, o, cs, hx, e, hat, rfl, _⟩ := h.at_ stay_int hb hk
  refine ⟨x, g, o, hx, e, ?_⟩
  rw [Nat.mul_one] at hat
  exact hat 0 _ rfl
theorem LS.int_ok {w : World} {A : Option Addr} {n c : Nat} {m : List Int} (h : LS rInt 1 8 w A n c m) {k : Nat} {x : Int} (hk : m[k]? = some x) : wfI x := by
  have hlt : k < m.length := (List.getElem?_eq_some_iff.1 hk).1
  obtain ⟨_, _, _, _, _, _, h1⟩ := h.2.2.2 k hlt
  rw [List.getElem?_eq_getElem hlt] at hk
  cases hk
  exact h1
theorem gI_some {m : List Int} {k : Nat} {x : Int} (h : m[k]? = some x) : gI m k = x := by rw [gI, List.getD_eq_getElem?_getD, h]; rfl
/-- As the kit's laws on slices of ints want it. -/
theorem LS.ints {w : World} {A : Option Addr} {n c : Nat} {m : List Int} (h : LS rInt 1 8 w A n c m) (hn : 0 < n) : ∃ g o, A = some ⟨g, o, none⟩ ∧ ∀ j, j < m.length → w.cell? ⟨g, o + j, none⟩ = some (.int .i64 (m.getD j 0)) := by
  obtain ⟨_, g, o, _, rfl, _⟩ := h.int_at (Below.refl _ _) hn
  refine ⟨g, o, rfl, fun j hj => ?_⟩
  obtain ⟨x, g', o', hx, e, hc⟩ := h.int_at (Below.refl _ _) (show j < n by rw [← h.1]; exact hj)
  cases e
  rw [hc, List.getD_eq_getElem?_getD, hx]
  rfl
theorem LS.strs {w : World} {A : Option Addr} {n c : Nat} {m : List (List UInt8)} (h : LS rStr 1 16 w A n c m) (hn : 0 < n) : ∃ g o, A = some ⟨g, o, none⟩ ∧ ∀ j, j < m.length → w.cell? ⟨g, o + j, none⟩ = some (usC m[j]!) := by
  obtain ⟨_, g, o, _, rfl, _⟩ := h.str_at (Below.refl _ _) hn
  refine ⟨g, o, rfl, fun j hj => ?_⟩
  obtain ⟨x, g', o', hx, e, hc⟩ := h.str_at (Below.refl _ _) (show j < n by rw [← h.1]; exact hj)
  cases e
  rw [hc, getElem!_def, hx]
  rfl
/-- slices.Contains of ints. -/
theorem contains_any (A : Option Addr) (n c : Nat) (m : List Int) (x : Int) (w : World) (h : LS rInt 1 8 w A n c m) :
    Calls Tryz.prog 42 #[.slice A n c, .int .i64 x] w fun e w' => e = .returned (.bool (m.contains x)) ∧ w' = w := by
  rcases Nat.eq_zero_or_pos n with h0 | h0
  · have h1 := h.1
    subst h0
    obtain rfl : m = [] := List.eq_nil_of_length_eq_zero h1
    exact Tryz.slices_Contains_int_empty A c x w
  · obtain ⟨g, o, rfl, hc⟩ := h.ints h0
    have h1 := h.1
    have h2 := h.len_le
    refine (Tryz.slices_Contains_int g o n c m x w (by omega) (by omega) hc).mono ?_
    rintro e w' ⟨rfl, rfl⟩
    rw [← h1, List.take_length]
    exact ⟨rfl, rfl⟩
end Go.Proofs.YtfonbliomokffaaGreat
