/- The reference's Proposals, plainly: those of the program. -/
import Derived.Test.YtfonbliomokffaaGreatTnm
import Derived.Test.YtfonbliomokffaaGreatTom
namespace Go.Proofs.YtfonbliomokffaaGreat
open Go Gf

/-- The proposal of an entry that the reference finds. -/
def propG (V : Int) (x : En) : Option Pp := if x.kind = 3 then (match drecS x with | some p => if p.vault = V then some p else none | none => none) else none
def propS (es : List En) (V : Int) : List Pp := (cnt es).filterMap (propG V)
theorem pps_cnt (es : List En) : pps (cnt es) = ppL (dd es) := by
  refine sort_one (pps_keyI (dd_dist es)) ((cnt_perm es).filterMap decM) ?_
  unfold pps
  rw [List.pairwise_filterMap]
  refine (cnt_sorted es).imp (fun {a b} h p hp q hq => ?_)
  have h1 := decM_key hp
  have h2 := decM_key hq
  rw [ltE_iff] at h
  rw [leP_iff]
  omega
theorem propG_dec (V : Int) (x : En) : propG V x = match decM x with | some p => if p.vault = V then some p else none | none => none := by
  unfold propG
  by_cases hk : x.kind = 3
  · rw [if_pos hk, dec_iff hk]
  · rw [if_neg hk, show decM x = none from by rw [decM, if_neg hk]]
theorem prop_list (V : Int) : ∀ l : List En, l.filterMap (propG V) = kpL (fun p => p.vault != V) (pps l)
  | [] => rfl
  | x :: l => by
    have ih := prop_list V l
    unfold pps at ih ⊢
    rw [List.filterMap_cons, List.filterMap_cons, propG_dec]
    cases hd : decM x with
    | none => exact ih
    | some p =>
      simp only
      by_cases hv : p.vault = V
      · simp [kpL, hv, ih]
      · simp [kpL, hv, ih]
theorem prop_of (es : List En) (V : Int) : propS es V = ofL (dd es) V := by
  unfold propS
  rw [prop_list, pps_cnt]; rfl
/-- The first proposals, when the first entries are looked at. -/
theorem prop_step {es : List En} {V : Int} {k : Nat} {x : En} (h : (cnt es)[k]? = some x) : ((cnt es).take (k + 1)).filterMap (propG V) = ((cnt es).take k).filterMap (propG V) ++ (propG V x).toList := by
  rw [take_next h, List.filterMap_append]
  congr 1
theorem cnt_len (es : List En) : (cnt es).length ≤ es.length := by
  rw [(cnt_perm es).length_eq]
  have key : ∀ (l D : List En), (l.foldl ddS D).length ≤ D.length + l.length := by
    intro l
    induction l with
    | nil => intro D; simp
    | cons x l ih =>
      intro D
      have h1 := ih (ddS D x)
      have h2 : (ddS D x).length ≤ D.length + 1 := by
        unfold ddS
        split
        · omega
        · simp
      simp only [List.foldl_cons, List.length_cons]
      omega
  have := key es []
  simpa [dd] using this
end Go.Proofs.YtfonbliomokffaaGreat
