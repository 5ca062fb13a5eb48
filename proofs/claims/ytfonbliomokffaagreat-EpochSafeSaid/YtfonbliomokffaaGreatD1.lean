/- Several texts in one: Za, Zb, Zc, Zd. -/
import Derived.Test.YtfonbliomokffaaGreatTpm
import Derived.Test.YtfonbliomokffaaGreatGrm
import Derived.Test.YtfonbliomokffaaGreatC20
import Derived.Test.YtfonbliomokffaaGreatC18
/- Plainly: a body is decoded again; replies by membership. -/
namespace Go.Proofs.YtfonbliomokffaaGreat
open Go Gf

theorem d_uv (v most : Nat) (t : List UInt8) (h1 : v ≤ most) (h2 : most ≤ 1099511627776) : takeS (uv v ++ t) most = (v, t, true) := by
  have h := takeS_yes (num_of v t (by omega)) h2 h1
  rw [h, List.drop_left]
theorem wsS_front {b : List UInt8} : ∀ k, wsS b (k + 1) = (if (takeS b 12).2.2 then (wsS (takeS b 12).2.1 k).map (fun y => (((takeS b 12).1 : Int) :: y.1, y.2)) else none)
  | 0 => by
    simp only [wsS]
    split <;> rfl
  | k + 1 => by
    rw [wsS, wsS_front k]
    by_cases hc : (takeS b 12).2.2 = true
    · rw [if_pos hc, if_pos hc]
      rw [wsS]
      cases wsS (takeS b 12).2.1 k with
      | none => rfl
      | some y =>
        simp only [Option.map_some]
        split
        · rfl
        · rfl
    · rw [if_neg hc, if_neg hc]
theorem wsS_uvs : ∀ (m : List Int) (t : List UInt8), (∀ x ∈ m, 0 ≤ x ∧ x < 12) → wsS (uvs m ++ t) m.length = some (m, t)
  | [], t, _ => rfl
  | z :: m, t, h => by
    have hz := h z (by simp)
    have e : uvs (z :: m) ++ t = uv z.toNat ++ (uvs m ++ t) := by rw [show uvs (z :: m) = uv z.toNat ++ uvs m from rfl, List.append_assoc]
    rw [List.length_cons, wsS_front, e, d_uv z.toNat 12 _ (by omega) (by decide), if_pos rfl]
    rw [wsS_uvs m t (fun x hx => h x (by simp [hx]))]
    simp only [Option.map_some]
    rw [show ((z.toNat : Nat) : Int) = z by omega]
theorem ssS_flat : ∀ (m : List (List UInt8)), (∀ x ∈ m, x.length = 32) → ssS m.flatten m.length = m := by
  intro m h
  apply List.ext_getElem?
  intro i
  by_cases hi : i < m.length
  · have key : ∀ (l : List (List UInt8)) (k : Nat), (∀ x ∈ l, x.length = 32) → (hk : k < l.length) → (l.flatten.drop (32 * k)).take 32 = l[k] := by
      intro l
      induction l with
      | nil => intro k _ hk; exact absurd hk (by simp)
      | cons a l ih =>
        intro k hl hk
        have ha := hl a (by simp)
        cases k with
        | zero => simp [ha]
        | succ k =>
          rw [List.flatten_cons, show 32 * (k + 1) = a.length + 32 * k by omega, List.drop_length_add_append]
          exact ih k (fun x hx => hl x (by simp [hx])) (by simpa using hk)
    rw [ssS, List.getElem?_map, List.getElem?_range hi, List.getElem?_eq_getElem hi, Option.map_some, key m i h hi]
  · rw [List.getElem?_eq_none (by rw [ssS, List.length_map, List.length_range]; omega), List.getElem?_eq_none (by omega)]
/-- The body of a valid proposal is decoded to it. -/
theorem dec_body {p : Pp} (hv : validB p = true) (x : En) (h1 : x.dev = p.dev) (h2 : x.seq = p.seq) (h3 : x.kind = 3) (h4 : x.body = bodyL p) : decM x = some p := by
  have hp := valid_p hv
  rw [dec_iff h3]
  have hb : bodyL p = uv p.vault.toNat ++ (uv p.ws.length ++ (uvs p.ws ++ (uv p.ss.length ++ p.ss.flatten))) := by
    rw [bodyL, bl2, bl1, List.take_length, List.take_length]; simp
  have e1 : d1S x.body = (p.vault.toNat, uv p.ws.length ++ (uvs p.ws ++ (uv p.ss.length ++ p.ss.flatten)), true) := by
    unfold d1S; rw [h4, hb, d_uv _ 11 _ (by have := hp.v0; have := hp.v1; omega) (by decide)]
  have e2 : d2S x.body = (p.ws.length, uvs p.ws ++ (uv p.ss.length ++ p.ss.flatten), true) := by
    unfold d2S; rw [e1]; exact d_uv _ 3 _ hp.w3 (by decide)
  have e3 : d3S x.body = some (p.ws, uv p.ss.length ++ p.ss.flatten) := by
    unfold d3S; rw [e2]; exact wsS_uvs _ _ hp.ws
  have e4 : takeS (uv p.ss.length ++ p.ss.flatten) 1024 = (p.ss.length, p.ss.flatten, true) := d_uv _ 1024 _ hp.s2 (by decide)
  have e5 : (⟨x.dev, x.seq, ((p.vault.toNat : Nat) : Int), p.ws, ssS p.ss.flatten p.ss.length⟩ : Pp) = p := by
    rw [ssS_flat _ hp.ss, h1, h2, show ((p.vault.toNat : Nat) : Int) = p.vault by have := hp.v0; omega]
  unfold drecS
  rw [e1, if_pos rfl, e2, if_pos rfl, e3]
  simp only [e4]
  rw [e5, if_pos hv, if_pos ⟨trivial, flat32 _ hp.ss⟩]
theorem rb_inj {p q : Pp} (hp : validB p = true) (hq : validB q = true) (wp : p.seq ≤ 9223372036854775807) (wq : q.seq ≤ 9223372036854775807) (h : rbL p = rbL q) : p.dev = q.dev ∧ p.seq = q.seq := by
  obtain ⟨a1, a2, a3⟩ := valid_dev hp
  obtain ⟨b1, b2, b3⟩ := valid_dev hq
  unfold rbL at h
  have n1 := num_of p.dev.toNat (uv p.seq.toNat) (by omega)
  have n2 := num_of q.dev.toNat (uv q.seq.toNat) (by omega)
  rw [h, n2] at n1
  have e1 : q.dev.toNat = p.dev.toNat := (Prod.mk.inj (Option.some.inj n1)).1
  rw [e1] at h
  have h2 := List.append_cancel_left h
  have n3 := num_of p.seq.toNat [] (by omega)
  have n4 := num_of q.seq.toNat [] (by omega)
  rw [h2, n4] at n3
  have e2 : q.seq.toNat = p.seq.toNat := (Prod.mk.inj (Option.some.inj n3)).1
  omega
/-- What a device replied hangs on its own entries alone. -/
theorem reply_cong {D D' : List En} (hd : DistE D) {p : Pp} {u : Int} (h : ∀ x : En, x.dev = u → (x ∈ D ↔ x ∈ D')) : replyOf D p u = replyOf D' p u := by
  have key : ∀ y : En, (okRep y && keyA y == (u, rbL p)) = true → y.dev = u := fun y hy => by
    rw [Bool.and_eq_true, beq_iff_eq] at hy
    exact congrArg Prod.fst hy.2
  unfold replyOf
  rcases bestP_of D (u, rbL p) with ⟨h1, h2⟩ | ⟨x, h1, h2, h3, h4⟩
  · rcases bestP_of D' (u, rbL p) with ⟨k1, _⟩ | ⟨y, k1, k2, k3, _⟩
    · rw [h1, k1]
    · have := h2 y ((h y (key y k3)).2 k2)
      rw [k3] at this; cases this
  · rcases bestP_of D' (u, rbL p) with ⟨k1, k2⟩ | ⟨y, k1, k2, k3, k4⟩
    · have := k2 x ((h x (key x h3)).1 h2)
      rw [h3] at this; cases this
    · have a1 := h4 y ((h y (key y k3)).2 k2) k3
      have a2 := k4 x ((h x (key x h3)).1 h2) h3
      have : x = y := dist_eq hd h2 ((h y (key y k3)).2 k2) (Prod.ext ((key x h3).trans (key y k3).symm) (show x.seq = y.seq by omega))
      rw [h1, k1, this]
/-- An acceptance among more entries is one of before or a new one. -/
theorem reply_new {D D' : List En} {p : Pp} {u : Int} (hs : ∀ x ∈ D, x ∈ D') (h : replyOf D' p u = 4) (hd : DistE D') : replyOf D p u = 4 ∨ ∃ x ∈ D', x ∉ D ∧ isRep x = true ∧ x.dev = u ∧ x.body = rbL p ∧ x.kind = 4 := by
  unfold replyOf at h
  rcases bestP_of D' (u, rbL p) with ⟨k1, _⟩ | ⟨x, k1, k2, k3, k4⟩
  · rw [k1] at h; cases h
  · rw [k1] at h
    have k3' := k3
    rw [Bool.and_eq_true, beq_iff_eq, okRep, Bool.and_eq_true] at k3'
    by_cases hx : x ∈ D
    · left
      unfold replyOf
      rcases bestP_of D (u, rbL p) with ⟨h1, h2⟩ | ⟨y, h1, h2, h3, h4⟩
      · have := h2 x hx
        rw [k3] at this; cases this
      · have a1 := h4 x hx k3
        have a2 := k4 y (hs y h2) h3
        have h3' := h3
        rw [Bool.and_eq_true, beq_iff_eq] at h3'
        have : x = y := dist_eq hd k2 (hs y h2) (Prod.ext ((congrArg Prod.fst k3'.2).trans (congrArg Prod.fst h3'.2).symm) (show x.seq = y.seq by omega))
        rw [h1, ← this]; exact h
    · exact .inr ⟨x, k2, hx, k3'.1.1, congrArg Prod.fst k3'.2, congrArg Prod.snd k3'.2, h⟩
theorem reply_some {D : List En} {p : Pp} {u : Int} (h : replyOf D p u = 4) : ∃ x ∈ D, isRep x = true ∧ x.dev = u ∧ x.body = rbL p := by
  unfold replyOf at h
  rcases bestP_of D (u, rbL p) with ⟨k1, _⟩ | ⟨x, k1, k2, k3, _⟩
  · rw [k1] at h; cases h
  · rw [Bool.and_eq_true, beq_iff_eq, okRep, Bool.and_eq_true] at k3
    exact ⟨x, k2, k3.1.1, congrArg Prod.fst k3.2, congrArg Prod.snd k3.2⟩
/-- The proposals of a view, by membership. -/
theorem of_mem {D : List En} {V : Int} {p : Pp} : p ∈ ofL D V ↔ (∃ x ∈ D, decM x = some p) ∧ p.vault = V := by rw [ofL_mem, ppL_mem]
end Go.Proofs.YtfonbliomokffaaGreat
/- The town of EpochSafe, plainly: its state, what holds in it, and that no needed stripe is dropped. -/
namespace Go.Proofs.YtfonbliomokffaaGreat
open Go Gf

structure Tn where
  lg : Nat → List En
  vw : Nat → Nat
  wr : Nat → Bool
  nd : Nat → Bool
  ex : Nat → Bool
  ad : Bool
  bw : Int
def up {α : Type} (f : Nat → α) (i : Nat) (v : α) : Nat → α := fun j => if j = i then v else f j
theorem up_same {α : Type} (f : Nat → α) (i : Nat) (v : α) : up f i v i = v := if_pos rfl
theorem up_ne {α : Type} (f : Nat → α) {i j : Nat} (v : α) (h : j ≠ i) : up f i v j = f j := if_neg h
def sid (s : Nat) : List UInt8 := idC (UInt8.ofNat (97 + s))
namespace Tn
def view (T : Tn) (w : Nat) : List En := (T.lg 0).take (T.vw (3 * w)) ++ (T.lg 1).take (T.vw (3 * w + 1)) ++ (T.lg 2).take (T.vw (3 * w + 2))
def all (T : Tn) : List En := T.lg 0 ++ T.lg 1 ++ T.lg 2
def known (T : Tn) (w : Nat) : List Int := ((List.range 3).filter fun d => T.wr (3 * w + d) && (d == w || !T.ex d)).map fun d : Nat => (d : Int)
def needed (T : Tn) (w : Nat) : List (List UInt8) := ((List.range 8).filter fun s => T.nd (8 * w + s)).map sid
def exL (T : Tn) : List Int := ((List.range 3).filter fun d => T.ex d).map fun d : Nat => (d : Int)
def newE (T : Tn) (w : Nat) (kind : Int) (body : List UInt8) : En := ⟨(w : Int), ((T.lg w).length : Int) + 1, kind, 0, body, []⟩
def log (T : Tn) (w : Nat) (kind : Int) (body : List UInt8) : Tn := { T with lg := up T.lg w (T.lg w ++ [T.newE w kind body]), vw := up T.vw (4 * w) (T.vw (4 * w) + 1) }
end Tn
theorem mem_take {α : Type} {l : List α} {k : Nat} {x : α} : x ∈ l.take k ↔ ∃ i : Nat, i < k ∧ l[i]? = some x := by
  rw [List.mem_iff_getElem?]
  constructor
  · rintro ⟨i, h⟩
    rw [List.getElem?_take] at h
    split at h
    · exact ⟨i, by assumption, h⟩
    · cases h
  · rintro ⟨i, h1, h2⟩
    exact ⟨i, by rw [List.getElem?_take, if_pos h1]; exact h2⟩
theorem mem_view {T : Tn} {w : Nat} {x : En} : x ∈ T.view w ↔ ∃ d : Nat, d < 3 ∧ ∃ i : Nat, i < T.vw (3 * w + d) ∧ (T.lg d)[i]? = some x := by
  unfold Tn.view
  rw [List.mem_append, List.mem_append, mem_take, mem_take, mem_take]
  constructor
  · rintro ((h | h) | h)
    · exact ⟨0, by omega, h⟩
    · exact ⟨1, by omega, h⟩
    · exact ⟨2, by omega, h⟩
  · rintro ⟨d, hd, h⟩
    match d, hd with
    | 0, _ => exact .inl (.inl h)
    | 1, _ => exact .inl (.inr h)
    | 2, _ => exact .inr h
theorem mem_all {T : Tn} {x : En} : x ∈ T.all ↔ ∃ d : Nat, d < 3 ∧ ∃ i : Nat, (T.lg d)[i]? = some x := by
  unfold Tn.all
  rw [List.mem_append, List.mem_append, List.mem_iff_getElem?, List.mem_iff_getElem?, List.mem_iff_getElem?]
  constructor
  · rintro ((h | h) | h)
    · exact ⟨0, by omega, h⟩
    · exact ⟨1, by omega, h⟩
    · exact ⟨2, by omega, h⟩
  · rintro ⟨d, hd, h⟩
    match d, hd with
    | 0, _ => exact .inl (.inl h)
    | 1, _ => exact .inl (.inr h)
    | 2, _ => exact .inr h
theorem view_all {T : Tn} {w : Nat} {x : En} (h : x ∈ T.view w) : x ∈ T.all := by
  obtain ⟨d, h1, i, _, h3⟩ := mem_view.1 h
  exact mem_all.2 ⟨d, h1, i, h3⟩
theorem mem_known {T : Tn} {w d : Nat} : (d : Int) ∈ T.known w ↔ d < 3 ∧ T.wr (3 * w + d) = true ∧ (d = w ∨ T.ex d = false) := by
  unfold Tn.known
  rw [List.mem_map]
  constructor
  · rintro ⟨a, ha, e⟩
    obtain rfl : a = d := by omega
    rw [List.mem_filter, List.mem_range, Bool.and_eq_true, Bool.or_eq_true, beq_iff_eq, Bool.not_eq_true'] at ha
    exact ⟨ha.1, ha.2.1, ha.2.2⟩
  · rintro ⟨h1, h2, h3⟩
    refine ⟨d, ?_, rfl⟩
    rw [List.mem_filter, List.mem_range, Bool.and_eq_true, Bool.or_eq_true, beq_iff_eq, Bool.not_eq_true']
    exact ⟨h1, h2, h3⟩
theorem mem_needed {T : Tn} {w s : Nat} (hs : s < 8) (h : T.nd (8 * w + s) = true) : sid s ∈ T.needed w :=
  List.mem_map.2 ⟨s, List.mem_filter.2 ⟨List.mem_range.2 hs, h⟩, rfl⟩
theorem ex_in {T : Tn} {u : Nat} (hu : u < 3) : T.exL.contains (u : Int) = T.ex u := by
  cases h : T.ex u with
  | true => exact List.contains_iff_mem.2 (List.mem_map.2 ⟨u, List.mem_filter.2 ⟨List.mem_range.2 hu, h⟩, rfl⟩)
  | false =>
    rw [← Bool.not_eq_true]
    intro hc
    obtain ⟨a, ha, e⟩ := List.mem_map.1 (List.contains_iff_mem.1 hc)
    obtain rfl : a = u := by omega
    rw [(List.mem_filter.1 ha).2] at h
    cases h
/-- The logs and what the views hold of them. -/
structure InvL (T : Tn) : Prop where
  dev : ∀ d : Nat, d < 3 → ∀ (i : Nat) (x : En), (T.lg d)[i]? = some x → x.dev = (d : Int) ∧ x.seq = (i : Int) + 1
  vle : ∀ u : Nat, u < 3 → ∀ d : Nat, d < 3 → T.vw (3 * u + d) ≤ (T.lg d).length
  own : ∀ u : Nat, u < 3 → T.vw (4 * u) = (T.lg u).length
namespace InvL
variable {T : Tn} (h : InvL T)
include h
theorem mine {x : En} {u : Nat} (hu : u < 3) (hx : x ∈ T.all) (hd : x.dev = (u : Int)) : x ∈ T.view u := by
  obtain ⟨d, h1, i, h2⟩ := mem_all.1 hx
  have h3 := (h.dev d h1 i x h2).1
  obtain rfl : d = u := by omega
  refine mem_view.2 ⟨d, h1, i, ?_, h2⟩
  rw [show 3 * d + d = 4 * d by omega, h.own d h1]
  exact (List.getElem?_eq_some_iff.1 h2).1
theorem lgd (d : Nat) (hd : d < 3) : DistE (T.lg d) := by
  refine List.pairwise_iff_getElem.2 (fun i j hi hj hij e => ?_)
  have h1 := (h.dev d hd i _ (List.getElem?_eq_getElem hi)).2
  have h2 := (h.dev d hd j _ (List.getElem?_eq_getElem hj)).2
  have h3 : (T.lg d)[i].seq = (T.lg d)[j].seq := congrArg Prod.snd e
  omega
theorem cross {d d' : Nat} (hd : d < 3) (hd' : d' < 3) (hne : d ≠ d') {x y : En} (hx : x ∈ T.lg d) (hy : y ∈ T.lg d') : keyE x ≠ keyE y := fun e => by
  obtain ⟨i, hi⟩ := List.mem_iff_getElem?.1 hx
  obtain ⟨j, hj⟩ := List.mem_iff_getElem?.1 hy
  have h1 := (h.dev d hd i x hi).1
  have h2 := (h.dev d' hd' j y hj).1
  have h3 : x.dev = y.dev := congrArg Prod.fst e
  omega
theorem dist : DistE T.all := by
  unfold Tn.all
  refine List.pairwise_append.2 ⟨List.pairwise_append.2 ⟨h.lgd 0 (by omega), h.lgd 1 (by omega), fun a ha b hb => h.cross (by omega) (by omega) (by omega) ha hb⟩, h.lgd 2 (by omega), fun a ha b hb => ?_⟩
  rcases List.mem_append.1 ha with ha | ha
  · exact h.cross (by omega) (by omega) (by omega) ha hb
  · exact h.cross (by omega) (by omega) (by omega) ha hb
theorem distv (w : Nat) : DistE (T.view w) := by
  have h1 := h.dist
  unfold Tn.all at h1
  unfold Tn.view
  exact h1.sublist (((List.take_sublist _ _).append (List.take_sublist _ _)).append (List.take_sublist _ _))
end InvL
theorem view_len (T : Tn) (w : Nat) : (T.view w).length ≤ T.all.length := by
  unfold Tn.all Tn.view
  simp only [List.length_append, List.length_take]
  omega
theorem seq_all {T : Tn} (h : InvL T) {x : En} (hx : x ∈ T.all) : x.seq ≤ (T.all.length : Int) := by
  obtain ⟨d, h1, i, h2⟩ := mem_all.1 hx
  have h3 := (h.dev d h1 i x h2).2
  have h4 := (List.getElem?_eq_some_iff.1 h2).1
  have h5 : (T.lg d).length ≤ T.all.length := by
    unfold Tn.all
    simp only [List.length_append]
    match d, h1 with
    | 0, _ => omega
    | 1, _ => omega
    | 2, _ => omega
  omega
/-- One reply body stands for one proposal. -/
theorem uniq_p {T : Tn} (h : InvL T) (hl : T.all.length ≤ 2000) {x y : En} {p q : Pp} (hx : x ∈ T.all) (hy : y ∈ T.all) (hp : decM x = some p) (hq : decM y = some q) (he : rbL p = rbL q) : x = y ∧ p = q := by
  obtain ⟨a1, a2, a3⟩ := decM_key hp
  obtain ⟨b1, b2, b3⟩ := decM_key hq
  have s1 := seq_all h hx
  have s2 := seq_all h hy
  obtain ⟨e1, e2⟩ := rb_inj a3 b3 (by omega) (by omega) he
  have : x = y := dist_eq h.dist hx hy (Prod.ext (show x.dev = y.dev by omega) (show x.seq = y.seq by omega))
  subst this
  rw [hp] at hq
  exact ⟨rfl, Option.some.inj hq⟩
/-- A proposal of a view, for the vault. -/
def PV (D : List En) (p : Pp) : Prop := (∃ x ∈ D, decM x = some p) ∧ p.vault = 0
theorem pvi_of {D : List En} {p : Pp} : p ∈ ofL D 0 ↔ PV D p := of_mem
theorem PV.mono {D D' : List En} {p : Pp} (h : PV D p) (hs : ∀ x ∈ D, x ∈ D') : PV D' p := let ⟨⟨x, h1, h2⟩, h3⟩ := h; ⟨⟨x, hs x h1, h2⟩, h3⟩
/-- What holds in the town. -/
structure Inv (three : Bool) (c L : Nat) (T : Tn) : Prop where
  l : InvL T
  rep : ∀ u : Nat, u < 3 → ∀ x ∈ T.view u, x.dev = (u : Int) → isRep x = true → ∃ y ∈ T.view u, ∃ p, decM y = some p ∧ x.body = rbL p
  j1 : ∀ u : Nat, u < 3 → ∀ p, PV (T.view u) p → (p.dev = (u : Int) ∨ replyOf (T.view u) p u = 4) → ∀ s : Nat, s < 8 → sid s ∈ p.ss → T.nd (8 * u + s) = false
  j3 : ∀ p, PV T.all p → ∀ u : Nat, u < 3 → ¬ (u : Int) ∈ p.ws → (u < 2 ∨ three = true) → T.ex u = true
  w : ∀ w : Nat, w < 3 → T.wr (4 * w) = true → ∀ u : Nat, u < 3 → (u < 2 ∨ three = true) → T.wr (3 * w + u) = true
  j4 : three = false → T.ad = true → ∃ b : Nat, b < 2 ∧ T.bw = (b : Int) ∧ T.ex b = false ∧ T.wr (3 * b + 2) = true ∧ ∀ p, PV T.all p → ¬ (2 : Int) ∈ p.ws → T.ex 2 = false → (p.dev = (b : Int) ∨ replyOf T.all p b = 4) → PV (T.view 2) p ∧ ∀ s : Nat, s < 8 → sid s ∈ p.ss → T.nd (16 + s) = false
  j5 : three = false → T.ad = false → T.lg 2 = [] ∧ T.wr 8 = false ∧ ∀ s : Nat, s < 8 → T.nd (16 + s) = false
  j6 : three = true → T.ad = true
  n3 : (T.all.filter fun x => x.kind == 3).length ≤ c
  len : T.all.length ≤ L
theorem Inv.mono {three : Bool} {c L c' L' : Nat} {T : Tn} (h : Inv three c L T) (h1 : c ≤ c') (h2 : L ≤ L') : Inv three c' L' T :=
  ⟨h.l, h.rep, h.j1, h.j3, h.w, h.j4, h.j5, h.j6, Nat.le_trans h.n3 h1, Nat.le_trans h.len h2⟩
theorem reply_own {T : Tn} (h : InvL T) (p : Pp) {u : Nat} (hu : u < 3) : replyOf (T.view u) p u = replyOf T.all p u :=
  reply_cong (h.distv u) (fun _ hx => ⟨view_all, fun hm => h.mine hu hm hx⟩)
/-- Who proposed or accepted a proposal has it in its view. -/
theorem has_it {three : Bool} {c L : Nat} {T : Tn} (h : Inv three c L T) (hL : L ≤ 2000) {u : Nat} (hu : u < 3) {p : Pp} (hp : PV T.all p) (hr : p.dev = (u : Int) ∨ replyOf (T.view u) p u = 4) : PV (T.view u) p := by
  obtain ⟨⟨x, hx, hd⟩, hv⟩ := hp
  rcases hr with hr | hr
  · exact ⟨⟨x, h.l.mine hu hx (by rw [← (decM_key hd).1]; exact hr), hd⟩, hv⟩
  · obtain ⟨y, y1, y2, y3, y4⟩ := reply_some hr
    obtain ⟨z, z1, q, z2, z3⟩ := h.rep u hu y y1 y3 y2
    obtain ⟨_, rfl⟩ := uniq_p h.l (Nat.le_trans h.len hL) hx (view_all z1) hd z2 (by rw [← y4, z3])
    exact ⟨⟨z, z1, z2⟩, hv⟩
/-- No stripe that is needed is dropped. -/
theorem town_safe {three : Bool} {c L : Nat} {T : Tn} (h : Inv three c L T) (hL : L ≤ 2000) {u s : Nat} (hu : u < 3) (he : T.ex u = false) (hs : s < 8) (hn : T.nd (8 * u + s) = true) : ¬ sid s ∈ dropL (dd T.all) 0 T.exL := by
  intro hd
  rw [dd_self h.l.dist] at hd
  obtain ⟨p, hp, h3, hm⟩ := strL_mem.1 hd
  have hst := state_3.1 (beq_iff_eq.1 h3)
  have hpv := pvi_of.1 hp
  have key : ∀ v : Nat, v < 3 → T.ex v = false → (v : Int) ∈ p.ws → p.dev = (v : Int) ∨ replyOf T.all p v = 4 := fun v hv hx hw => by
    by_cases hd : p.dev = (v : Int)
    · exact .inl hd
    · right
      refine hst v hw ?_
      unfold asks
      rw [ex_in hv, hx, Bool.or_false, Bool.not_eq_true', beq_eq_false_iff_ne]
      exact fun e => hd e.symm
  by_cases hw : (u : Int) ∈ p.ws
  · have hk := key u hu he hw
    rw [← reply_own h.l p hu] at hk
    have := h.j1 u hu p (has_it h hL hu hpv hk) hk s hs hm
    rw [hn] at this; cases this
  · by_cases hc : u < 2 ∨ three = true
    · have := h.j3 p hpv u hu hw hc
      rw [he] at this; cases this
    · have ht : three = false := by
        cases three
        · rfl
        · exact absurd (.inr rfl) hc
      obtain rfl : u = 2 := by omega
      cases ha : T.ad with
      | false =>
        have := (h.j5 ht ha).2.2 s hs
        rw [show 8 * 2 + s = 16 + s by omega] at hn
        rw [hn] at this; cases this
      | true =>
        obtain ⟨b, hb, _, b2, _, b4⟩ := h.j4 ht ha
        have hbw : (b : Int) ∈ p.ws := Decidable.byContradiction fun hn => by
          have := h.j3 p hpv b (by omega) hn (.inl hb)
          rw [b2] at this; cases this
        have := (b4 p hpv hw he (key b (by omega) b2 hbw)).2 s hs hm
        rw [show 8 * 2 + s = 16 + s by omega] at hn
        rw [hn] at this; cases this
end Go.Proofs.YtfonbliomokffaaGreat
/- The town of EpochSafe, plainly: what holds stays when an entry is logged. -/
namespace Go.Proofs.YtfonbliomokffaaGreat
open Go Gf

section
variable {T : Tn} {w : Nat} {kd : Int} {b : List UInt8}
theorem log_lg {d : Nat} (h : d ≠ w) : (T.log w kd b).lg d = T.lg d := up_ne _ _ h
theorem log_lgw : (T.log w kd b).lg w = T.lg w ++ [T.newE w kd b] := up_same _ _ _
theorem log_vw {i : Nat} (h : i ≠ 4 * w) : (T.log w kd b).vw i = T.vw i := up_ne _ _ h
theorem log_vww : (T.log w kd b).vw (4 * w) = T.vw (4 * w) + 1 := up_same _ _ _
theorem log_part (h : InvL T) {u d : Nat} (hu : u < 3) (hw : w < 3) (hd : d < 3) (hne : u ≠ w) : ((T.log w kd b).lg d).take ((T.log w kd b).vw (3 * u + d)) = (T.lg d).take (T.vw (3 * u + d)) := by
  by_cases e : d = w
  · subst e
    rw [log_lgw, log_vw (by omega), List.take_append_of_le_length (h.vle u hu d hd)]
  · rw [log_lg e, log_vw (by omega)]
theorem log_view_ne (h : InvL T) {u : Nat} (hu : u < 3) (hw : w < 3) (hne : u ≠ w) : (T.log w kd b).view u = T.view u := by
  unfold Tn.view
  rw [show 3 * u = 3 * u + 0 from rfl, log_part h hu hw (by omega : 0 < 3) hne, log_part h hu hw (by omega : 1 < 3) hne, log_part h hu hw (by omega : 2 < 3) hne]
theorem mem_log_view (h : InvL T) (hw : w < 3) {x : En} : x ∈ (T.log w kd b).view w ↔ x ∈ T.view w ∨ x = T.newE w kd b := by
  rw [mem_view, mem_view]
  constructor
  · rintro ⟨d, hd, i, hi, hx⟩
    by_cases e : d = w
    · subst e
      rw [show 3 * d + d = 4 * d by omega, log_vww] at hi
      rw [log_lgw] at hx
      have ho := h.own d hw
      by_cases hlt : i < (T.lg d).length
      · rw [List.getElem?_append_left hlt] at hx
        exact .inl ⟨d, hd, i, by rw [show 3 * d + d = 4 * d by omega]; omega, hx⟩
      · have : i = (T.lg d).length := by omega
        rw [this, List.getElem?_append_right (Nat.le_refl _), Nat.sub_self] at hx
        exact .inr (Option.some.inj hx).symm
    · rw [log_lg e] at hx
      rw [log_vw (by omega)] at hi
      exact .inl ⟨d, hd, i, hi, hx⟩
  · rintro (⟨d, hd, i, hi, hx⟩ | rfl)
    · by_cases e : d = w
      · subst e
        refine ⟨d, hd, i, ?_, ?_⟩
        · rw [show 3 * d + d = 4 * d by omega, log_vww]
          rw [show 3 * d + d = 4 * d by omega] at hi
          omega
        · rw [log_lgw, List.getElem?_append_left (List.getElem?_eq_some_iff.1 hx).1]; exact hx
      · exact ⟨d, hd, i, by rw [log_vw (by omega)]; exact hi, by rw [log_lg e]; exact hx⟩
    · refine ⟨w, hw, (T.lg w).length, ?_, ?_⟩
      · rw [show 3 * w + w = 4 * w by omega, log_vww, h.own w hw]; omega
      · rw [log_lgw, List.getElem?_append_right (Nat.le_refl _), Nat.sub_self]; rfl
theorem mem_log_all (hw : w < 3) {x : En} : x ∈ (T.log w kd b).all ↔ x ∈ T.all ∨ x = T.newE w kd b := by
  rw [mem_all, mem_all]
  constructor
  · rintro ⟨d, hd, i, hx⟩
    by_cases e : d = w
    · subst e
      rw [log_lgw] at hx
      by_cases hlt : i < (T.lg d).length
      · rw [List.getElem?_append_left hlt] at hx
        exact .inl ⟨d, hd, i, hx⟩
      · rw [List.getElem?_append_right (by omega)] at hx
        have h1 := (List.getElem?_eq_some_iff.1 hx).1
        rw [List.length_singleton] at h1
        rw [show i - (T.lg d).length = 0 by omega] at hx
        exact .inr (Option.some.inj hx).symm
    · rw [log_lg e] at hx
      exact .inl ⟨d, hd, i, hx⟩
  · rintro (⟨d, hd, i, hx⟩ | rfl)
    · by_cases e : d = w
      · subst e
        exact ⟨d, hd, i, by rw [log_lgw, List.getElem?_append_left (List.getElem?_eq_some_iff.1 hx).1]; exact hx⟩
      · exact ⟨d, hd, i, by rw [log_lg e]; exact hx⟩
    · exact ⟨w, hw, (T.lg w).length, by rw [log_lgw, List.getElem?_append_right (Nat.le_refl _), Nat.sub_self]; rfl⟩
theorem InvL.log (h : InvL T) (hw : w < 3) : InvL (T.log w kd b) := by
  refine ⟨fun d hd i x hx => ?_, fun u hu d hd => ?_, fun u hu => ?_⟩
  · by_cases e : d = w
    · subst e
      rw [log_lgw] at hx
      by_cases hlt : i < (T.lg d).length
      · rw [List.getElem?_append_left hlt] at hx
        exact h.dev d hd i x hx
      · rw [List.getElem?_append_right (by omega)] at hx
        have h1 := (List.getElem?_eq_some_iff.1 hx).1
        rw [List.length_singleton] at h1
        rw [show i - (T.lg d).length = 0 by omega] at hx
        have h2 : T.newE d kd b = x := Option.some.inj hx
        subst h2
        exact ⟨rfl, by show ((T.lg d).length : Int) + 1 = _; omega⟩
    · rw [log_lg e] at hx
      exact h.dev d hd i x hx
  · by_cases e : d = w
    · subst e
      rw [log_lgw, List.length_append, List.length_singleton]
      by_cases e2 : u = d
      · subst e2
        rw [show 3 * u + u = 4 * u by omega, log_vww, h.own u hu]; exact Nat.le_refl _
      · rw [log_vw (by omega)]
        exact Nat.le_trans (h.vle u hu d hd) (Nat.le_succ _)
    · rw [log_lg e, log_vw (by omega)]
      exact h.vle u hu d hd
  · by_cases e : u = w
    · subst e
      rw [log_vww, log_lgw, List.length_append, h.own u hu]; rfl
    · rw [log_lg e, log_vw (by omega)]
      exact h.own u hu
theorem new_not (h : InvL T) : ¬ T.newE w kd b ∈ T.all := fun hx => by
  obtain ⟨d, hd, i, hi⟩ := mem_all.1 hx
  obtain ⟨h1, h2⟩ := h.dev d hd i _ hi
  have h3 := (List.getElem?_eq_some_iff.1 hi).1
  have e1 : (w : Int) = (d : Int) := h1
  have e2 : ((T.lg w).length : Int) + 1 = (i : Int) + 1 := h2
  obtain rfl : w = d := by omega
  omega
theorem log_len (hw : w < 3) : (T.log w kd b).all.length = T.all.length + 1 := by
  unfold Tn.all
  match w, hw with
  | 0, _ => rw [log_lgw, log_lg (by omega), log_lg (by omega)]; simp only [List.length_append, List.length_singleton]; omega
  | 1, _ => rw [log_lgw, log_lg (by omega), log_lg (by omega)]; simp only [List.length_append, List.length_singleton]; omega
  | 2, _ => rw [log_lgw, log_lg (by omega), log_lg (by omega)]; simp only [List.length_append, List.length_singleton]; omega
theorem log_n3 (hw : w < 3) : ((T.log w kd b).all.filter fun x => x.kind == 3).length = (T.all.filter fun x => x.kind == 3).length + (if kd == 3 then 1 else 0) := by
  have e : (([T.newE w kd b] : List En).filter fun x => x.kind == 3).length = if kd == 3 then 1 else 0 := by
    show (List.filter (fun x : En => x.kind == 3) [T.newE w kd b]).length = _
    rw [List.filter_cons]
    show (if (kd == 3) = true then _ else _ : List En).length = _
    cases (kd == 3) <;> rfl
  unfold Tn.all
  match w, hw, e with
  | 0, _, e => rw [log_lgw, log_lg (by omega), log_lg (by omega)]; simp only [List.filter_append, List.length_append, e]; omega
  | 1, _, e => rw [log_lgw, log_lg (by omega), log_lg (by omega)]; simp only [List.filter_append, List.length_append, e]; omega
  | 2, _, e => rw [log_lgw, log_lg (by omega), log_lg (by omega)]; simp only [List.filter_append, List.length_append, e]; omega
end
theorem not_rep3 {x : En} (h : x.kind = 3) : isRep x = false := by rw [isRep, h]; rfl
theorem decM_no {x : En} (h : ¬ x.kind = 3) : decM x = none := by rw [decM, if_neg h]
/-- A proposal is logged. -/
theorem Inv.propose {three : Bool} {c L : Nat} {T : Tn} (h : Inv three c L T) (hL : L + 1 ≤ 2000) {w : Nat} (hw : w < 3) (ha : T.wr (4 * w) = true) {p : Pp} (hv : validB p = true) (h1 : p.dev = (w : Int)) (h2 : p.seq = ((T.lg w).length : Int) + 1) (h3 : p.ws = T.known w)
    (h4 : ∀ s, s < 8 → sid s ∈ p.ss → T.nd (8 * w + s) = false) : Inv three (c + 1) (L + 1) (T.log w 3 (bodyL p)) := by
  have hd : decM (T.newE w 3 (bodyL p)) = some p := dec_body hv _ h1.symm h2.symm rfl rfl
  have hl := h.l.log (kd := 3) (b := bodyL p) hw
  have hlen : (T.log w 3 (bodyL p)).all.length ≤ L + 1 := by rw [log_len hw]; exact Nat.succ_le_succ h.len
  have hsub : ∀ u, u < 3 → ∀ x ∈ T.view u, x ∈ (T.log w 3 (bodyL p)).view u := fun u hu x hx => by
    by_cases e : u = w
    · subst e; exact (mem_log_view h.l hw).2 (.inl hx)
    · rw [log_view_ne h.l hu hw e]; exact hx
  have hrnew : ∀ (u : Nat) (q : Pp), u < 3 → replyOf ((T.log w 3 (bodyL p)).view u) q u = 4 → replyOf (T.view u) q u = 4 := fun u q hu hr => by
    rcases reply_new (hsub u hu) hr (hl.distv u) with h5 | ⟨x, x1, x2, x3, _⟩
    · exact h5
    · by_cases e : u = w
      · subst e
        rcases (mem_log_view h.l hw).1 x1 with h6 | rfl
        · exact absurd h6 x2
        · rw [not_rep3 rfl] at x3; cases x3
      · rw [log_view_ne h.l hu hw e] at x1; exact absurd x1 x2
  refine ⟨hl, fun u hu x hx hxd hxr => ?_, fun u hu q hq hr s hs hm => ?_, fun q hq u hu hn hc => ?_, h.w, fun ht hb => ?_, fun ht hb => ?_, h.j6, ?_, hlen⟩
  · have hx' : x ∈ T.view u := by
      by_cases e : u = w
      · subst e
        rcases (mem_log_view h.l hw).1 hx with h6 | rfl
        · exact h6
        · rw [not_rep3 rfl] at hxr; cases hxr
      · rw [log_view_ne h.l hu hw e] at hx; exact hx
    obtain ⟨y, y1, q, y2, y3⟩ := h.rep u hu x hx' hxd hxr
    exact ⟨y, hsub u hu y y1, q, y2, y3⟩
  · show T.nd (8 * u + s) = false
    obtain ⟨⟨x, hx, hxd⟩, hqv⟩ := hq
    have hr' : q.dev = (u : Int) ∨ replyOf (T.view u) q u = 4 := hr.imp id (hrnew u q hu)
    by_cases e : u = w
    · subst e
      rcases (mem_log_view h.l hw).1 hx with h6 | rfl
      · exact h.j1 u hu q ⟨⟨x, h6, hxd⟩, hqv⟩ hr' s hs hm
      · rw [hd] at hxd
        cases hxd
        exact h4 s hs hm
    · rw [log_view_ne h.l hu hw e] at hx
      exact h.j1 u hu q ⟨⟨x, hx, hxd⟩, hqv⟩ hr' s hs hm
  · show T.ex u = true
    obtain ⟨⟨x, hx, hxd⟩, hqv⟩ := hq
    rcases (mem_log_all hw).1 hx with h6 | rfl
    · exact h.j3 q ⟨⟨x, h6, hxd⟩, hqv⟩ u hu hn hc
    · rw [hd] at hxd
      cases hxd
      rw [h3] at hn
      cases he : T.ex u with
      | true => rfl
      | false => exact absurd (mem_known.2 ⟨hu, h.w w hw ha u hu hc, .inr he⟩) hn
  · obtain ⟨b, b0, b1, b2, b3, b4⟩ := h.j4 ht hb
    refine ⟨b, b0, b1, b2, b3, fun q hq hn he hr => ?_⟩
    obtain ⟨⟨x, hx, hxd⟩, hqv⟩ := hq
    have hr' : q.dev = (b : Int) ∨ replyOf T.all q b = 4 := hr.imp id (fun hr => by
      rw [← reply_own hl q (by omega : b < 3)] at hr
      rw [← reply_own h.l q (by omega : b < 3)]
      exact hrnew b q (by omega) hr)
    rcases (mem_log_all hw).1 hx with h6 | rfl
    · obtain ⟨c1, c2⟩ := b4 q ⟨⟨x, h6, hxd⟩, hqv⟩ hn he hr'
      exact ⟨c1.mono (hsub 2 (by omega)), c2⟩
    · exfalso
      rw [hd] at hxd
      cases hxd
      rcases hr' with hr' | hr'
      · have e : w = b := by omega
        rw [h3, e] at hn
        exact hn (show ((2 : Nat) : Int) ∈ T.known b from mem_known.2 ⟨by omega, b3, .inr he⟩)
      · obtain ⟨x, x1, x2, x3, x4⟩ := reply_some hr'
        obtain ⟨y, y1, q, y2, y3⟩ := h.rep b (by omega) x (h.l.mine (by omega) x1 x3) x3 x2
        obtain ⟨e, _⟩ := uniq_p hl (by omega) ((mem_log_all hw).2 (.inr rfl)) ((mem_log_all hw).2 (.inl (view_all y1))) hd y2 (by rw [← x4, y3])
        rw [← e] at y1
        exact new_not h.l (view_all y1)
  · obtain ⟨a1, a2, a3⟩ := h.j5 ht hb
    have e : 2 ≠ w := fun e => by
      subst e
      rw [show 4 * 2 = 8 from rfl] at ha
      rw [ha] at a2; cases a2
    exact ⟨by rw [log_lg e]; exact a1, a2, a3⟩
  · rw [log_n3 hw]; exact Nat.succ_le_succ h.n3
theorem replyK_4 {p : Pp} {need : List (List UInt8)} {wrs : List Int} (h : replyK p need wrs = 4) : (∀ s ∈ p.ss, ¬ s ∈ need) ∧ ∀ x ∈ wrs, x ∈ p.ws := by
  unfold replyK at h
  split at h
  · cases h
  · rename_i h1
    split at h
    · cases h
    · rename_i h2
      refine ⟨fun s hs hn => h1 (List.any_eq_true.2 ⟨s, hs, (hasB_iff _ _).2 hn⟩), fun x hx => Decidable.byContradiction fun hn => h2 (List.any_eq_true.2 ⟨x, hx, ?_⟩)⟩
      rw [Bool.not_eq_true', ← Bool.not_eq_true]
      exact fun hc => hn (List.contains_iff_mem.1 hc)
theorem replyK_45 (p : Pp) (need : List (List UInt8)) (wrs : List Int) : replyK p need wrs = 4 ∨ replyK p need wrs = 5 := by
  unfold replyK
  split
  · exact .inr rfl
  · split
    · exact .inr rfl
    · exact .inl rfl
/-- A reply to a proposal of the view is logged. -/
theorem Inv.reply {three : Bool} {c L : Nat} {T : Tn} (h : Inv three c L T) (hL : L + 1 ≤ 2000) {w : Nat} (hw : w < 3) (ha : T.wr (4 * w) = true) {q : Pp} (hq : PV (T.view w) q) : Inv three c (L + 1) (T.log w (replyK q (T.needed w) (T.known w)) (rbL q)) := by
  obtain ⟨kd, hkd⟩ : ∃ k, k = replyK q (T.needed w) (T.known w) := ⟨_, rfl⟩
  have h45 : kd = 4 ∨ kd = 5 := by rw [hkd]; exact replyK_45 _ _ _
  rw [← hkd]
  have hno : decM (T.newE w kd (rbL q)) = none := decM_no (by show ¬ kd = 3; omega)
  have hl := h.l.log (kd := kd) (b := rbL q) hw
  have hlen : (T.log w kd (rbL q)).all.length ≤ L + 1 := by rw [log_len hw]; exact Nat.succ_le_succ h.len
  have hsub : ∀ u, u < 3 → ∀ x ∈ T.view u, x ∈ (T.log w kd (rbL q)).view u := fun u hu x hx => by
    by_cases e : u = w
    · subst e; exact (mem_log_view h.l hw).2 (.inl hx)
    · rw [log_view_ne h.l hu hw e]; exact hx
  have hold : ∀ u, u < 3 → ∀ x ∈ (T.log w kd (rbL q)).view u, ∀ p, decM x = some p → x ∈ T.view u := fun u hu x hx p hp => by
    by_cases e : u = w
    · subst e
      rcases (mem_log_view h.l hw).1 hx with h6 | rfl
      · exact h6
      · rw [hno] at hp; cases hp
    · rw [log_view_ne h.l hu hw e] at hx; exact hx
  have hola : ∀ x ∈ (T.log w kd (rbL q)).all, ∀ p, decM x = some p → x ∈ T.all := fun x hx p hp => by
    rcases (mem_log_all hw).1 hx with h6 | rfl
    · exact h6
    · rw [hno] at hp; cases hp
  have hrnew : ∀ (u : Nat) (p : Pp), u < 3 → PV T.all p → replyOf ((T.log w kd (rbL q)).view u) p u = 4 → replyOf (T.view u) p u = 4 ∨ (u = w ∧ p = q ∧ kd = 4) := fun u p hu hp hr => by
    rcases reply_new (hsub u hu) hr (hl.distv u) with h5 | ⟨x, x1, x2, x3, x4, x5, x6⟩
    · exact .inl h5
    · by_cases e : u = w
      · subst e
        rcases (mem_log_view h.l hw).1 x1 with h6 | rfl
        · exact absurd h6 x2
        · obtain ⟨⟨y, y1, y2⟩, _⟩ := hp
          obtain ⟨⟨z, z1, z2⟩, _⟩ := hq
          obtain ⟨_, e⟩ := uniq_p h.l (by have := h.len; omega) y1 (view_all z1) y2 z2 (Eq.symm x5)
          exact .inr ⟨rfl, e, x6⟩
      · rw [log_view_ne h.l hu hw e] at x1; exact absurd x1 x2
  refine ⟨hl, fun u hu x hx hxd hxr => ?_, fun u hu p hp hr s hs hm => ?_, fun p hp u hu hn hc => ?_, h.w, fun ht hb => ?_, fun ht hb => ?_, h.j6, ?_, hlen⟩
  · have key : x ∈ T.view u ∨ (u = w ∧ x = T.newE w kd (rbL q)) := by
      by_cases e : u = w
      · subst e
        rcases (mem_log_view h.l hw).1 hx with h6 | h6
        · exact .inl h6
        · exact .inr ⟨rfl, h6⟩
      · rw [log_view_ne h.l hu hw e] at hx; exact .inl hx
    rcases key with h6 | ⟨rfl, rfl⟩
    · obtain ⟨y, y1, r, y2, y3⟩ := h.rep u hu x h6 hxd hxr
      exact ⟨y, hsub u hu y y1, r, y2, y3⟩
    · obtain ⟨⟨z, z1, z2⟩, _⟩ := hq
      exact ⟨z, hsub u hu z z1, q, z2, rfl⟩
  · show T.nd (8 * u + s) = false
    obtain ⟨⟨x, hx, hxd⟩, hpv⟩ := hp
    have hpo : PV (T.view u) p := ⟨⟨x, hold u hu x hx p hxd, hxd⟩, hpv⟩
    rcases hr with hr | hr
    · exact h.j1 u hu p hpo (.inl hr) s hs hm
    · rcases hrnew u p hu (hpo.mono fun _ => view_all) hr with hr | ⟨rfl, rfl, h4⟩
      · exact h.j1 u hu p hpo (.inr hr) s hs hm
      · rw [hkd] at h4
        cases hn : T.nd (8 * u + s) with
        | false => rfl
        | true => exact absurd (mem_needed hs hn) ((replyK_4 h4).1 _ hm)
  · show T.ex u = true
    obtain ⟨⟨x, hx, hxd⟩, hpv⟩ := hp
    exact h.j3 p ⟨⟨x, hola x hx p hxd, hxd⟩, hpv⟩ u hu hn hc
  · obtain ⟨b, b0, b1, b2, b3, b4⟩ := h.j4 ht hb
    refine ⟨b, b0, b1, b2, b3, fun p hp hn he hr => ?_⟩
    obtain ⟨⟨x, hx, hxd⟩, hpv⟩ := hp
    have hpo : PV T.all p := ⟨⟨x, hola x hx p hxd, hxd⟩, hpv⟩
    have hr' : p.dev = (b : Int) ∨ replyOf T.all p b = 4 := by
      rcases hr with hr | hr
      · exact .inl hr
      · rw [← reply_own hl p (by omega : b < 3)] at hr
        rw [← reply_own h.l p (by omega : b < 3)]
        rcases hrnew b p (by omega) hpo hr with hr | ⟨rfl, rfl, h4⟩
        · exact .inr hr
        · rw [hkd] at h4
          exact absurd ((replyK_4 h4).2 (2 : Int) (show ((2 : Nat) : Int) ∈ T.known _ from mem_known.2 ⟨by omega, b3, .inr he⟩)) hn
    obtain ⟨c1, c2⟩ := b4 p hpo hn he hr'
    exact ⟨c1.mono (hsub 2 (by omega)), c2⟩
  · obtain ⟨a1, a2, a3⟩ := h.j5 ht hb
    have e : 2 ≠ w := fun e => by
      subst e
      rw [show 4 * 2 = 8 from rfl] at ha
      rw [ha] at a2; cases a2
    exact ⟨by rw [log_lg e]; exact a1, a2, a3⟩
  · rw [log_n3 hw, if_neg (by rw [beq_iff_eq]; omega)]; exact h.n3
end Go.Proofs.YtfonbliomokffaaGreat
/- The town of EpochSafe, plainly: the other acts. -/
namespace Go.Proofs.YtfonbliomokffaaGreat
open Go Gf

/-- Row w of a table of rows of m, up to the k-th entry. -/
def inRow (m w k i : Nat) : Bool := decide (m * w ≤ i) && decide (i < m * w + k)
theorem inRow_at {m w k s : Nat} (hs : s < k) : inRow m w k (m * w + s) = true := by
  unfold inRow; rw [decide_eq_true (by omega), decide_eq_true (by omega)]; rfl
theorem inRow_iff {m w k i : Nat} : inRow m w k i = true ↔ m * w ≤ i ∧ i < m * w + k := by
  unfold inRow; rw [Bool.and_eq_true, decide_eq_true_eq, decide_eq_true_eq]
theorem inRow_zero (m w i : Nat) : inRow m w 0 i = false := by
  rw [← Bool.not_eq_true, inRow_iff]; omega
namespace Tn
def needK (T : Tn) (w : Nat) (m : Nat → Bool) (C : List (List UInt8)) (k : Nat) : Tn := { T with nd := fun i => T.nd i || (inRow 8 w k i && (m (i - 8 * w) && !hasB C (sid (i - 8 * w)))) }
def need (T : Tn) (w : Nat) (m : Nat → Bool) : Tn := T.needK w m (condL (dd (T.view w)) 0 w) 8
def releaseK (T : Tn) (w : Nat) (m : Nat → Bool) (k : Nat) : Tn := { T with nd := fun i => T.nd i && !(inRow 8 w k i && m (i - 8 * w)) }
def learnK (T : Tn) (w o k : Nat) : Tn := { T with vw := fun i => if inRow 3 w k i then max (T.vw i) (T.vw (3 * o + (i - 3 * w))) else T.vw i, wr := fun i => T.wr i || (inRow 3 w k i && T.wr (3 * o + (i - 3 * w))) }
def expel (T : Tn) (o : Nat) : Tn := { T with ex := up T.ex o true }
def add (T : Tn) (w : Nat) : Tn := { T with ad := true, bw := (w : Int), wr := fun i => if inRow 3 2 3 i then up T.wr (3 * w + 2) true (3 * w + (i - 6)) else up T.wr (3 * w + 2) true i, vw := fun i => if inRow 3 2 3 i then T.vw (3 * w + (i - 6)) else T.vw i }
def reply1 (w : Nat) (T : Tn) (q : Pp) : Tn := T.log w (replyK q (T.needed w) (T.known w)) (rbL q)
end Tn
theorem Inv.need {three : Bool} {c L : Nat} {T : Tn} (h : Inv three c L T) {w : Nat} (hw : w < 3) (ha : T.wr (4 * w) = true) (m : Nat → Bool) : Inv three c L (T.need w m) := by
  have key : ∀ u, u < 3 → ∀ s, s < 8 → T.nd (8 * u + s) = false → (u = w → hasB (condL (dd (T.view w)) 0 w) (sid s) = true) → (T.need w m).nd (8 * u + s) = false := fun u hu s hs h1 h2 => by
    show (T.nd (8 * u + s) || (inRow 8 w 8 (8 * u + s) && (m (8 * u + s - 8 * w) && !hasB (condL (dd (T.view w)) 0 w) (sid (8 * u + s - 8 * w))))) = false
    rw [h1, Bool.false_or]
    cases hr : inRow 8 w 8 (8 * u + s) with
    | false => rfl
    | true =>
      have := inRow_iff.1 hr
      obtain rfl : u = w := by omega
      rw [show 8 * u + s - 8 * u = s by omega, h2 rfl]; simp
  have hcond : ∀ p, PV (T.view w) p → (p.dev = (w : Int) ∨ ¬ (w : Int) ∈ p.ws ∨ replyOf (T.view w) p w = 4) → ∀ s, sid s ∈ p.ss → hasB (condL (dd (T.view w)) 0 w) (sid s) = true := fun p hp hr s hs => by
    rw [hasB_iff]
    refine strL_mem.2 ⟨p, ?_, ?_, hs⟩
    · rw [dd_self (h.l.distv w)]; exact pvi_of.2 hp
    · rw [dd_self (h.l.distv w)]
      unfold condN
      rw [Bool.or_eq_true, Bool.or_eq_true, beq_iff_eq, beq_iff_eq, Bool.not_eq_true', ← Bool.not_eq_true, List.contains_iff_mem]
      rcases hr with hr | hr | hr
      · exact .inl (.inl hr)
      · exact .inl (.inr hr)
      · exact .inr hr
  refine ⟨⟨h.l.dev, h.l.vle, h.l.own⟩, h.rep, fun u hu p hp hr s hs hm => ?_, h.j3, h.w, fun ht hb => ?_, fun ht hb => ?_, h.j6, h.n3, h.len⟩
  · refine key u hu s hs (h.j1 u hu p hp hr s hs hm) (fun e => ?_)
    subst e
    exact hcond p hp (hr.imp id .inr) s hm
  · obtain ⟨b, b0, b1, b2, b3, b4⟩ := h.j4 ht hb
    refine ⟨b, b0, b1, b2, b3, fun p hp hn he hr => ?_⟩
    obtain ⟨c1, c2⟩ := b4 p hp hn he hr
    refine ⟨c1, fun s hs hm => ?_⟩
    rw [show 16 + s = 8 * 2 + s by omega]
    refine key 2 (by omega) s hs (by rw [show 8 * 2 + s = 16 + s by omega]; exact c2 s hs hm) (fun e => ?_)
    subst e
    exact hcond p c1 (.inr (.inl hn)) s hm
  · obtain ⟨a1, a2, a3⟩ := h.j5 ht hb
    refine ⟨a1, a2, fun s hs => ?_⟩
    rw [show 16 + s = 8 * 2 + s by omega]
    refine key 2 (by omega) s hs (by rw [show 8 * 2 + s = 16 + s by omega]; exact a3 s hs) (fun e => ?_)
    subst e
    rw [show 4 * 2 = 8 from rfl] at ha
    rw [ha] at a2; cases a2
theorem Inv.release {three : Bool} {c L : Nat} {T : Tn} (h : Inv three c L T) (w : Nat) (m : Nat → Bool) : Inv three c L (T.releaseK w m 8) := by
  have key : ∀ i, T.nd i = false → (T.releaseK w m 8).nd i = false := fun i hi => by
    show (T.nd i && !(inRow 8 w 8 i && m (i - 8 * w))) = false
    rw [hi]; rfl
  refine ⟨⟨h.l.dev, h.l.vle, h.l.own⟩, h.rep, fun u hu p hp hr s hs hm => key _ (h.j1 u hu p hp hr s hs hm), h.j3, h.w, fun ht hb => ?_, fun ht hb => ?_, h.j6, h.n3, h.len⟩
  · obtain ⟨b, b0, b1, b2, b3, b4⟩ := h.j4 ht hb
    exact ⟨b, b0, b1, b2, b3, fun p hp hn he hr => let ⟨c1, c2⟩ := b4 p hp hn he hr; ⟨c1, fun s hs hm => key _ (c2 s hs hm)⟩⟩
  · obtain ⟨a1, a2, a3⟩ := h.j5 ht hb
    exact ⟨a1, a2, fun s hs => key _ (a3 s hs)⟩
section
variable {T : Tn} {w o : Nat}
theorem learn_vw_ne {u d : Nat} (hd : d < 3) (hne : u ≠ w) : (T.learnK w o 3).vw (3 * u + d) = T.vw (3 * u + d) := by
  show (if inRow 3 w 3 (3 * u + d) then _ else _) = _
  rw [if_neg (by rw [inRow_iff]; omega)]
theorem learn_vw {d : Nat} (hd : d < 3) : (T.learnK w o 3).vw (3 * w + d) = max (T.vw (3 * w + d)) (T.vw (3 * o + d)) := by
  show (if inRow 3 w 3 (3 * w + d) then _ else _) = _
  rw [if_pos (inRow_at hd), show 3 * w + d - 3 * w = d by omega]
theorem learn_view_ne {u : Nat} (hne : u ≠ w) : (T.learnK w o 3).view u = T.view u := by
  unfold Tn.view
  rw [show 3 * u = 3 * u + 0 from rfl, learn_vw_ne (by omega : 0 < 3) hne, learn_vw_ne (by omega : 1 < 3) hne, learn_vw_ne (by omega : 2 < 3) hne]
  rfl
theorem learn_sub (u : Nat) : ∀ x ∈ T.view u, x ∈ (T.learnK w o 3).view u := fun x hx => by
  by_cases e : u = w
  · subst e
    obtain ⟨d, hd, i, hi, h1⟩ := mem_view.1 hx
    exact mem_view.2 ⟨d, hd, i, by rw [learn_vw hd]; omega, h1⟩
  · rw [learn_view_ne e]; exact hx
theorem InvL.learn (h : InvL T) (hw : w < 3) (ho : o < 3) : InvL (T.learnK w o 3) := by
  refine ⟨h.dev, fun u hu d hd => ?_, fun u hu => ?_⟩
  · by_cases e : u = w
    · subst e
      rw [learn_vw hd]
      exact Nat.max_le.2 ⟨h.vle u hu d hd, h.vle o ho d hd⟩
    · rw [learn_vw_ne hd e]; exact h.vle u hu d hd
  · by_cases e : u = w
    · subst e
      have h1 := h.own u hu
      have h2 := h.vle o ho u hu
      rw [show 4 * u = 3 * u + u by omega, learn_vw hu]
      rw [show 4 * u = 3 * u + u by omega] at h1
      show max _ _ = (T.lg u).length
      omega
    · have h1 := h.own u hu
      rw [show 4 * u = 3 * u + u by omega] at h1 ⊢
      rw [learn_vw_ne hu e]; exact h1
end
theorem Inv.learn {three : Bool} {c L : Nat} {T : Tn} (h : Inv three c L T) (hL : L ≤ 2000) {w o : Nat} (hw : w < 3) (ho : o < 3) (ha : T.wr (4 * w) = true) : Inv three c L (T.learnK w o 3) := by
  have hl := h.l.learn hw ho
  have hsub := learn_sub (T := T) (w := w) (o := o)
  have hwr : ∀ i, T.wr i = true → (T.learnK w o 3).wr i = true := fun i hi => by
    show (T.wr i || _) = true
    rw [hi]; rfl
  have hwr2 : ∀ u d, d < 3 → u ≠ w → (T.learnK w o 3).wr (3 * u + d) = T.wr (3 * u + d) := fun u d hd hne => by
    show (T.wr (3 * u + d) || (inRow 3 w 3 (3 * u + d) && _)) = _
    rw [show inRow 3 w 3 (3 * u + d) = false by rw [← Bool.not_eq_true, inRow_iff]; omega]; simp
  have hrep : ∀ u, u < 3 → ∀ p, replyOf ((T.learnK w o 3).view u) p u = replyOf (T.view u) p u := fun u hu p => by
    rw [reply_own hl p hu, reply_own h.l p hu]; rfl
  refine ⟨hl, fun u hu x hx hxd hxr => ?_, fun u hu p hp hr s hs hm => ?_, h.j3, fun u hu hu4 v hv hc => ?_, fun ht hb => ?_, fun ht hb => ?_, h.j6, h.n3, h.len⟩
  · have hxa : x ∈ (T.learnK w o 3).all := view_all hx
    have hx' := h.l.mine hu hxa hxd
    obtain ⟨y, y1, q, y2, y3⟩ := h.rep u hu x hx' hxd hxr
    exact ⟨y, hsub u y y1, q, y2, y3⟩
  · rw [hrep u hu] at hr
    have hpa : PV (T.learnK w o 3).all p := hp.mono (fun _ hx => view_all hx)
    exact h.j1 u hu p (has_it h hL hu hpa hr) hr s hs hm
  · by_cases e : u = w
    · subst e
      exact hwr _ (h.w u hu ha v hv hc)
    · rw [show 4 * u = 3 * u + u by omega, hwr2 u u hu e, show 3 * u + u = 4 * u by omega] at hu4
      exact hwr _ (h.w u hu hu4 v hv hc)
  · obtain ⟨b, b0, b1, b2, b3, b4⟩ := h.j4 ht hb
    exact ⟨b, b0, b1, b2, hwr _ b3, fun p hp hn he hr => let ⟨c1, c2⟩ := b4 p hp hn he hr; ⟨c1.mono (hsub 2), c2⟩⟩
  · obtain ⟨a1, a2, a3⟩ := h.j5 ht hb
    have e : 2 ≠ w := fun e => by
      subst e
      rw [show 4 * 2 = 8 from rfl] at ha
      rw [ha] at a2; cases a2
    exact ⟨a1, by have := hwr2 2 2 (by omega) e; rw [show 3 * 2 + 2 = 8 from rfl] at this; rw [this]; exact a2, a3⟩
theorem Inv.expel {three : Bool} {c L : Nat} {T : Tn} (h : Inv three c L T) {o : Nat} (hc : T.ad = false ∨ (o : Int) ≠ T.bw) : Inv three c L (T.expel o) := by
  have key : ∀ u, T.ex u = true → (T.expel o).ex u = true := fun u hu => by
    show up T.ex o true u = true
    by_cases e : u = o
    · subst e; exact up_same _ _ _
    · rw [up_ne _ _ e]; exact hu
  have key2 : ∀ u, (T.expel o).ex u = false → T.ex u = false := fun u hu => by
    cases he : T.ex u with
    | false => rfl
    | true => rw [key u he] at hu; cases hu
  refine ⟨⟨h.l.dev, h.l.vle, h.l.own⟩, h.rep, h.j1, fun p hp u hu hn hc => key u (h.j3 p hp u hu hn hc), h.w, fun ht hb => ?_, h.j5, h.j6, h.n3, h.len⟩
  obtain ⟨b, b0, b1, b2, b3, b4⟩ := h.j4 ht hb
  have hob : b ≠ o := fun e => by
    rcases hc with hc | hc
    · have hb' : T.ad = true := hb
      rw [hb'] at hc; cases hc
    · exact hc (by rw [← e, b1])
  exact ⟨b, b0, b1, by show up T.ex o true b = false; rw [up_ne _ _ hob]; exact b2, b3, fun p hp hn he hr => b4 p hp hn (key2 2 he) hr⟩
theorem Inv.add {three : Bool} {c L : Nat} {T : Tn} (h : Inv three c L T) (hL : L ≤ 2000) {w : Nat} (hw : w < 2) (ha : T.wr (4 * w) = true) (h0 : T.ad = false) (he : T.ex w = false) : Inv three c L (T.add w) := by
  have ht : three = false := by
    cases hq : three with
    | false => rfl
    | true => rw [h.j6 hq] at h0; cases h0
  obtain ⟨a1, a2, a3⟩ := h.j5 ht h0
  have hv : ∀ u d, d < 3 → u ≠ 2 → (T.add w).vw (3 * u + d) = T.vw (3 * u + d) := fun u d hd hu => by
    show (if inRow 3 2 3 (3 * u + d) then _ else _) = _
    rw [if_neg (by rw [inRow_iff]; omega)]
  have hv2 : ∀ d, d < 3 → (T.add w).vw (3 * 2 + d) = T.vw (3 * w + d) := fun d hd => by
    show (if inRow 3 2 3 (3 * 2 + d) then _ else _) = _
    rw [if_pos (inRow_at hd), show 3 * 2 + d - 6 = d by omega]
  have hview : ∀ u, u ≠ 2 → (T.add w).view u = T.view u := fun u hu => by
    unfold Tn.view
    rw [show 3 * u = 3 * u + 0 from rfl, hv u 0 (by omega) hu, hv u 1 (by omega) hu, hv u 2 (by omega) hu]
    rfl
  have hview2 : (T.add w).view 2 = T.view w := by
    unfold Tn.view
    rw [show 3 * 2 = 3 * 2 + 0 from rfl, hv2 0 (by omega), show 3 * 2 + 0 + 1 = 3 * 2 + 1 from rfl, hv2 1 (by omega), show 3 * 2 + 0 + 2 = 3 * 2 + 2 from rfl, hv2 2 (by omega)]
    rfl
  have hl : InvL (T.add w) := by
    refine ⟨h.l.dev, fun u hu d hd => ?_, fun u hu => ?_⟩
    · by_cases e : u = 2
      · subst e; rw [hv2 d hd]; exact h.l.vle w (by omega) d hd
      · rw [hv u d hd e]; exact h.l.vle u hu d hd
    · have h1 := h.l.own u hu
      rw [show 4 * u = 3 * u + u by omega] at h1 ⊢
      by_cases e : u = 2
      · subst e
        rw [hv2 2 (by omega)]
        have h2 := h.l.vle w (by omega) 2 (by omega)
        have h3 : (T.lg 2).length = 0 := by rw [a1]; rfl
        show _ = (T.lg 2).length
        omega
      · rw [hv u u hu e]; exact h1
  have hwr0 : ∀ i, T.wr i = true → up T.wr (3 * w + 2) true i = true := fun i hi => by
    by_cases e : i = 3 * w + 2
    · subst e; exact up_same _ _ _
    · rw [up_ne _ _ e]; exact hi
  have hwr : ∀ u d, d < 3 → u ≠ 2 → (T.add w).wr (3 * u + d) = up T.wr (3 * w + 2) true (3 * u + d) := fun u d hd hu => by
    show (if inRow 3 2 3 (3 * u + d) then _ else _) = _
    rw [if_neg (by rw [inRow_iff]; omega)]
  have hwr2 : ∀ d, d < 3 → (T.add w).wr (3 * 2 + d) = up T.wr (3 * w + 2) true (3 * w + d) := fun d hd => by
    show (if inRow 3 2 3 (3 * 2 + d) then _ else _) = _
    rw [if_pos (inRow_at hd), show 3 * 2 + d - 6 = d by omega]
  refine ⟨hl, fun u hu x hx hxd hxr => ?_, fun u hu p hp hr s hs hm => ?_, h.j3, fun u hu hu4 v hv hc => ?_, fun _ _ => ?_, fun _ hb => (by cases hb), fun _ => rfl, h.n3, h.len⟩
  · by_cases e : u = 2
    · subst e
      have hxa : x ∈ (T.add w).all := view_all hx
      have hx' := h.l.mine (by omega) hxa hxd
      obtain ⟨d, hd, i, hi, h1⟩ := mem_view.1 hx'
      have h2 := (h.l.dev d hd i x h1).1
      obtain rfl : d = 2 := by omega
      rw [a1] at h1; cases h1
    · rw [hview u e] at hx ⊢
      exact h.rep u hu x hx hxd hxr
  · by_cases e : u = 2
    · subst e
      rw [show 8 * 2 + s = 16 + s by omega]
      exact a3 s hs
    · rw [hview u e] at hp hr
      exact h.j1 u hu p hp hr s hs hm
  · have hv2' : v < 2 := by
      rcases hc with hc | hc
      · exact hc
      · rw [ht] at hc; cases hc
    by_cases e : u = 2
    · subst e
      rw [hwr2 v hv]
      exact hwr0 _ (h.w w (by omega) ha v hv (.inl hv2'))
    · rw [hwr u v hv e]
      rw [show 4 * u = 3 * u + u by omega, hwr u u hu e, up_ne _ _ (by omega : 3 * u + u ≠ 3 * w + 2), show 3 * u + u = 4 * u by omega] at hu4
      exact hwr0 _ (h.w u hu hu4 v hv (.inl hv2'))
  · refine ⟨w, hw, rfl, he, by rw [hwr w 2 (by omega) (by omega)]; exact up_same _ _ _, fun p hp _ _ hr => ?_⟩
    rw [show (T.add w).all = T.all from rfl] at hp hr
    rw [← reply_own h.l p (by omega : w < 3)] at hr
    rw [hview2]
    exact ⟨has_it h hL (by omega) hp hr, fun s hs _ => a3 s hs⟩
/-- All pending proposals are answered. -/
theorem Inv.replies {three : Bool} {w : Nat} (hw : w < 3) : ∀ (P : List Pp) {c L : Nat} {T : Tn}, Inv three c L T → L + P.length ≤ 2000 → T.wr (4 * w) = true → (∀ q ∈ P, PV (T.view w) q) → Inv three c (L + P.length) (P.foldl (Tn.reply1 w) T)
  | [], c, L, T, h, _, _, _ => h
  | q :: P, c, L, T, h, hL, ha, hP => by
    rw [List.length_cons] at hL ⊢
    have h1 := h.reply (by omega) hw ha (hP q (by simp))
    have h2 := Inv.replies hw P h1 (by omega) ha (fun r hr => (hP r (by simp [hr])).mono (fun x hx => (mem_log_view h.l hw).2 (.inl hx)))
    rw [show L + (P.length + 1) = L + 1 + P.length by omega]
    exact h2
theorem pend_len {T : Tn} (h : InvL T) (w : Nat) : (pendL (dd (T.view w)) 0 w).length ≤ (T.all.filter fun x => x.kind == 3).length := by
  rw [dd_self (h.distv w)]
  have h1 : (pendL (T.view w) 0 w).length ≤ (pps (T.view w)).length := by
    refine Nat.le_trans (List.length_filter_le _ _) (Nat.le_trans (List.length_filter_le _ _) ?_)
    exact Nat.le_of_eq (sortP_perm _).length_eq
  refine Nat.le_trans h1 ?_
  have key : ∀ l : List En, (pps l).length ≤ (l.filter fun x => x.kind == 3).length := by
    intro l
    induction l with
    | nil => exact Nat.le_refl _
    | cons x l ih =>
      unfold pps at ih ⊢
      rw [List.filterMap_cons, List.filter_cons]
      cases hd : decM x with
      | none =>
        dsimp only
        split
        · exact Nat.le_trans ih (Nat.le_succ _)
        · exact ih
      | some p =>
        have hk : x.kind = 3 := by
          by_cases hk : x.kind = 3
          · exact hk
          · rw [decM_no hk] at hd; cases hd
        rw [if_pos (by rw [beq_iff_eq]; exact hk)]
        exact Nat.succ_le_succ ih
  refine Nat.le_trans (key _) ?_
  unfold Tn.view Tn.all
  have hs : ∀ d k, ((((T.lg d).take k).filter fun x => x.kind == 3)).length ≤ ((T.lg d).filter fun x => x.kind == 3).length := fun d k => ((List.take_sublist _ _).filter _).length_le
  simp only [List.filter_append, List.length_append]
  have := hs 0 (T.vw (3 * w))
  have := hs 1 (T.vw (3 * w + 1))
  have := hs 2 (T.vw (3 * w + 2))
  omega
end Go.Proofs.YtfonbliomokffaaGreat
