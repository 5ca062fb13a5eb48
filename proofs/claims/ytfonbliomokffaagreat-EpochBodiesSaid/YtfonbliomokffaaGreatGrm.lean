/- What is agreed stays agreed: plainly; append of a whole list at the operation. -/
import Derived.Test.YtfonbliomokffaaGreatC22
namespace Go.Proofs.YtfonbliomokffaaGreat
open Go Go.RowKit Gf Sha

theorem state_3 {D : List En} {p : Pp} {ex : List Int} : stateOf D p ex = 3 ↔ ∀ x ∈ p.ws, asks p ex x = true → replyOf D p x = 4 := by
  unfold stateOf
  constructor
  · intro h x hx ha
    split at h
    · cases h
    · split at h
      · cases h
      · rename_i _ h2
        rw [Bool.not_eq_true, List.any_eq_false] at h2
        have := h2 x hx
        rw [ha] at this
        simpa using this
  · intro h
    rw [if_neg, if_neg]
    · rw [Bool.not_eq_true, List.any_eq_false]
      intro x hx
      cases ha : asks p ex x with
      | false => simp
      | true => rw [h x hx ha]; simp
    · rw [Bool.not_eq_true, List.any_eq_false]
      intro x hx
      cases ha : asks p ex x with
      | false => simp
      | true => rw [h x hx ha]; simp
theorem ppL_mem {D : List En} {p : Pp} : p ∈ ppL D ↔ ∃ x ∈ D, decM x = some p := by
  rw [ppL, (sortP_perm _).mem_iff, pps, List.mem_filterMap]
theorem ofL_mem {D : List En} {V : Int} {p : Pp} : p ∈ ofL D V ↔ p ∈ ppL D ∧ p.vault = V := by
  rw [ofL, kpL, List.mem_filter]
  simp
theorem strL_mem {D : List En} {V : Int} {q : Pp → Bool} {s : List UInt8} : s ∈ strL D V q ↔ ∃ p ∈ ofL D V, q p = true ∧ s ∈ p.ss := by
  rw [strL, uniq_mem, stL, List.mem_flatMap]
  constructor
  · rintro ⟨p, h1, h2⟩; exact ⟨p, (List.mem_filter.1 h1).1, (List.mem_filter.1 h1).2, h2⟩
  · rintro ⟨p, h1, h2, h3⟩; exact ⟨p, List.mem_filter.2 ⟨h1, h2⟩, h3⟩
theorem reply_best {D : List En} {p : Pp} {d : Int} (h : replyOf D p d ≠ 0) : ∃ e, best D (d, rbL p) = some e ∧ e.kind = replyOf D p d := by
  unfold replyOf at h ⊢
  cases hb : best D (d, rbL p) with
  | none => rw [hb] at h; exact absurd rfl h
  | some e => exact ⟨e, rfl, rfl⟩
theorem best_grow {D M : List En} (hd : DistE (D ++ M)) (hm : ∀ x ∈ M, ∀ y ∈ D, x.dev = y.dev → ¬ x.seq < y.seq) {key : Int × List UInt8} {e : En} (h : best D key = some e) : best (D ++ M) key = some e := by
  rcases bestP_of D key with ⟨h1, _⟩ | ⟨x, h1, h2, h3, h4⟩
  · rw [h] at h1; cases h1
  · rw [h] at h1
    cases h1
    rcases bestP_of (D ++ M) key with ⟨k1, k2⟩ | ⟨y, k1, k2, k3, k4⟩
    · have := k2 e (by simp [h2]); rw [h3] at this; cases this
    · rw [k1]
      have e3 : keyA e = key := by rw [Bool.and_eq_true, beq_iff_eq] at h3; exact h3.2
      have e4 : keyA y = key := by rw [Bool.and_eq_true, beq_iff_eq] at k3; exact k3.2
      have e5 : y.dev = e.dev := congrArg Prod.fst (e4.trans e3.symm)
      have e6 := k4 e (by simp [h2]) h3
      have e7 : e.seq ≤ y.seq := by
        rcases List.mem_append.1 k2 with hy | hy
        · exact h4 y hy k3
        · have := hm y hy e h2 e5; omega
      rw [dist_eq hd k2 (by simp [h2]) (Prod.ext e5 (show y.seq = e.seq by omega))]
theorem grows {es mo : List En} (hd : DistE (es ++ mo)) (hm : ∀ x ∈ mo, ∀ y ∈ es, x.dev = y.dev → ¬ x.seq < y.seq) (V : Int) (ex fu : List Int) {s : List UInt8} (h : s ∈ dropL (dd es) V ex) : s ∈ dropL (dd (es ++ mo)) V (ex ++ fu) := by
  rw [dd_self hd]
  rw [dd_self (List.pairwise_append.1 hd).1] at h
  obtain ⟨p, h1, h2, h3⟩ := strL_mem.1 h
  obtain ⟨h4, h5⟩ := ofL_mem.1 h1
  obtain ⟨x, h6, h7⟩ := ppL_mem.1 h4
  refine strL_mem.2 ⟨p, ofL_mem.2 ⟨ppL_mem.2 ⟨x, by simp [h6], h7⟩, h5⟩, ?_, h3⟩
  rw [beq_iff_eq] at h2 ⊢
  refine state_3.2 (fun u hu ha => ?_)
  have ha' : asks p ex u = true := by
    unfold asks at ha ⊢
    cases hd1 : (u == p.dev) with
    | true => rw [hd1] at ha; cases ha
    | false =>
      rw [hd1, Bool.false_or] at ha
      rw [Bool.false_or]
      cases hc : ex.contains u with
      | false => rfl
      | true =>
        rw [show (ex ++ fu).contains u = true from List.contains_iff_mem.2 (List.mem_append.2 (.inl (List.contains_iff_mem.1 hc)))] at ha
        cases ha
  have h8 := state_3.1 h2 u hu ha'
  obtain ⟨e, h9, h10⟩ := reply_best (D := es) (p := p) (d := u) (by rw [h8]; decide)
  have h11 := best_grow hd hm h9
  unfold replyOf
  rw [h11]
  show e.kind = 4
  rw [h10, h8]
section
variable {α : Type} {R : Rdg α} {s b m c : Nat} {te t : TypeId} {A : Option Addr} {L M : List α} {P : Program} {w0 : World} (w : World) {o : Oper} {a : Act} {Q : Exit → Act → World → Prop} {K' : Act → World → Prop}
/-- append(r, x...), r a list that is being built. -/
theorem wp_appOL (sl x : Operand) (i : TypeInfo) (z : Value) (hop : o.op = .call { callee := .builtin .append, args := #[sl, x], argTypes := #[t, t] })
    (ht : P.underlying t = some (.slice te)) (hi : P.info? te = some i) (hz : i.zero = some z) (hs : i.size = s) (hzs : z.cells.size = s) (v : Value) (hv : a.eval sl = v) (ho : OL R s te w0 w v L) (hb : Below w0.heap.size w0 w)
    (hx : a.eval x = .slice A m c) (hM : LS R s b w0 A m c M) (hlen : ∀ cs x, R w0 cs x → cs.length = s) (hone : ∀ cs x, R w0 cs x → ∀ u ∈ cs, u.oneCell' = true) (hsz : (L.length + m) * i.bytes ≤ 140737488355328) (hn : L.length + m ≤ 140737488355328)
    (hK : ∀ v' w', OL R s te w0 w' v' (L ++ M) → Below w0.heap.size w0 w' → K' (a.put o.dst v') w') : o.wp P a w K' Q := by
  obtain ⟨css, h1, h2, h3, h4, h5⟩ := ho
  obtain ⟨dss, k1, k2, k3, k4⟩ := hM.src hlen hone ht
  refine wp_appX w sl x t te s i z hop ht hi hz hs hzs v L.length css.flatten hv h4 _ m dss.flatten hx (k4 w hb) hsz hn (fun v' w' ap => hK v' w' ?_ ?_)
  · exact OL.app h1 h2 h3 h5 rfl k1 k2 k3 hM.1 hb.size ap
  · exact low_kp hb ap.kp (fun j hj e => by have := h5 j e; omega)
end
theorem bslE0 (w : World) : (Instr.buildSlice 22 0 #[]).run Tryz.prog w = .ok (.slice (some ⟨w.heap.size, 0, none⟩) 0 0) (w.alloc (.cells ([] : List Value).toArray 33)) := by kernel_rfl
theorem bslI0 (w : World) : (Instr.buildSlice 23 0 #[]).run Tryz.prog w = .ok (.slice (some ⟨w.heap.size, 0, none⟩) 0 0) (w.alloc (.cells ([] : List Value).toArray 3)) := by kernel_rfl
theorem infoInt' : (Tryz.prog.info? 3).map (fun i => (i.zero, i.size, i.bytes)) = some (some (.int .i64 0), 1, 8) := by kernel_rfl
end Go.Proofs.YtfonbliomokffaaGreat
