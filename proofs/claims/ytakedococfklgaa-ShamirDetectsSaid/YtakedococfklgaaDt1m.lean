/- Plain: what Check, Combine and Wrong say when one byte of one share of a sharing is another one. -/
import Derived.Test.YtakedococfklgaaDt0m
namespace Go.Proofs.Ytakedococfklgaa
open Go.RowKit Gf

/-- One that agrees everywhere and one that agrees with all but one are the same. -/
theorem far_one {xs ys p q : List UInt8} {t : Nat} (hd : Py.Dst xs) (hp : p.length ≤ t) (hq : q.length ≤ t) (ht : t < xs.length) (h0 : ∀ j, j < xs.length → Py.ev p (gB xs j) = gB ys j) (h1 : dsK xs ys q xs.length ≤ 1) (x : UInt8) : Py.ev p x = Py.ev q x := by
  have hl := okK_len xs ys q xs.length
  refine Py.unique_ev (okK_dst ys q hd) (by omega) (by omega) (fun i hi => ?_) x
  obtain ⟨j, hj, e1, e2⟩ := okK_all xs ys q xs.length i hi
  rw [e1, e2, h0 j hj]

section
variable {s : List UInt8} {co : List (List UInt8)} {z : List Int} {i b : Nat} {x : UInt8}
/-- What is asked of the altered sharing. -/
structure Alt (s : List UInt8) (co : List (List UInt8)) (z : List Int) (i b : Nat) (x : UInt8) : Prop where
  fz : xsB z = true
  fL : s.length ≤ 1024
  fn : z.length ≤ 64
  ft : co.length + 1 ≤ 16
  ftn : co.length + 1 < z.length
  fi : i < z.length
  fb : b < s.length
  fx : x ≠ gB (gS (wnK s co z) i).2 b
theorem Alt.len (_ : Alt s co z i b x) : (altS (wnK s co z) i b x).length = z.length := by rw [altS_length, wnK_length]
theorem Alt.g (h : Alt s co z i b x) (j : Nat) : gS (altS (wnK s co z) i b x) j = if j = i then ((gS (wnK s co z) i).1, (gS (wnK s co z) i).2.set b x) else gS (wnK s co z) j := gS_altS _ _ _ _ (by rw [wnK_length]; exact h.fi) j
theorem Alt.gx (h : Alt s co z i b x) (j : Nat) : (gS (altS (wnK s co z) i b x) j).1 = (gS (wnK s co z) j).1 := by
  rw [h.g]; split
  · rename_i e; rw [e]
  · rfl
theorem Alt.ga (h : Alt s co z i b x) (j : Nat) : gX (altS (wnK s co z) i b x) j = gX (wnK s co z) j := by unfold gX; rw [h.gx]
theorem Alt.gb (h : Alt s co z i b x) {j k : Nat} (_ : j < z.length) (_ : k < s.length) : gB (gS (altS (wnK s co z) i b x) j).2 k = if j = i ∧ k = b then x else gB (gS (wnK s co z) j).2 k := by
  rw [h.g]
  by_cases e : j = i
  · rw [if_pos e]
    simp only
    rw [gB_set _ (by rw [wnK_eql i (by rw [wnK_length]; exact h.fi)]; exact h.fb)]
    by_cases e2 : k = b
    · rw [if_pos e2, if_pos ⟨e, e2⟩]
    · rw [if_neg e2, if_neg (fun h => e2 h.2), e]
  · rw [if_neg e, if_neg (fun h => e h.1)]
theorem Alt.eql (h : Alt s co z i b x) : Eql (altS (wnK s co z) i b x) s.length := fun j hj => by
  rw [h.len] at hj
  rw [h.g]
  split
  · rw [List.length_set]; exact wnK_eql i (by rw [wnK_length]; exact h.fi)
  · exact wnK_eql j (by rw [wnK_length]; exact hj)
theorem Alt.sh (h : Alt s co z i b x) : shB (altS (wnK s co z) i b x) = true := by
  have hg := wnK_good (s := s) (co := co) h.fz
  refine sh_of (by rw [h.len]; exact h.fn) h.eql h.fL (fun j hj => ?_) (fun j k hk hj => ?_)
  · rw [h.len] at hj; rw [h.gx]; exact hg.x j (by rw [wnK_length]; exact hj)
  · rw [h.len] at hj; rw [h.gx, h.gx]; exact hg.n j k hk (by rw [wnK_length]; exact hj)
theorem Alt.dst (h : Alt s co z i b x) : Py.Dst (coX (altS (wnK s co z) i b x)) := coX_ds h.sh
theorem spP_length (j : Nat) : (spP s co j).length = co.length + 1 := by simp [spP]
theorem Alt.val (h : Alt s co z i b x) {j k : Nat} (hj : j < z.length) (hk : k < s.length) (hne : ¬ (j = i ∧ k = b)) : Py.ev (spP s co k) (gX (altS (wnK s co z) i b x) j) = gB (gS (altS (wnK s co z) i b x) j).2 k := by
  rw [h.ga, h.gb hj hk, if_neg hne, wnK_val hj hk]
theorem Alt.ds (h : Alt s co z i b x) {k : Nat} (hk : k < s.length) : dsK (coX (altS (wnK s co z) i b x)) (coY (altS (wnK s co z) i b x) k) (spP s co k) z.length ≤ 1 := by
  refine dsK_one (i := i) _ (fun j hj hne => ?_)
  rw [gB_coX (by rw [h.len]; exact hj), coY, gB_tab _ (by rw [h.len]; exact hj)]
  exact h.val hj hk (fun e => hne e.1)
theorem Alt.not (h : Alt s co z i b x) (p : List UInt8) (hp : p.length ≤ co.length + 1) (hv : ∀ j, j < z.length → Py.ev p (gX (altS (wnK s co z) i b x) j) = gB (gS (altS (wnK s co z) i b x) j).2 b) : False := by
  have hl := h.len
  have h1 := far_one (ys := coY (altS (wnK s co z) i b x) b) (q := spP s co b) h.dst hp (by rw [spP_length]; exact Nat.le_refl _) (by rw [coX_length, hl]; exact h.ftn) (fun j hj => by
    rw [coX_length] at hj
    rw [gB_coX hj, coY, gB_tab _ hj]
    exact hv j (by rw [← hl]; exact hj)) (by rw [coX_length, hl]; exact h.ds h.fb) (gX (altS (wnK s co z) i b x) i)
  rw [hv i h.fi, h.gb h.fi h.fb, if_pos ⟨rfl, rfl⟩, h.ga, ← wnK_val h.fi h.fb] at h1
  exact h.fx h1
theorem Alt.check (h : Alt s co z i b x) : chE (altS (wnK s co z) i b x) ((co.length : Int) + 1) = 0 ∧ chB (altS (wnK s co z) i b x) ((co.length : Int) + 1) = false ∧ ckE (altS (wnK s co z) i b x) ((co.length : Int) + 1) = 13 ∧ cbL (altS (wnK s co z) i b x) ((co.length : Int) + 1) 0 = [] := by
  have hl := h.len
  have htn := h.ftn
  have ht := h.ft
  have hE : agE (altS (wnK s co z) i b x) ((co.length : Int) + 1) = 13 := by
    unfold agE
    rw [h.sh, vT_iff.2 ⟨by omega, by omega⟩]
    show (if ((altS (wnK s co z) i b x).length : Int) < (co.length : Int) + 1 then (10 : Int) else _) = 13
    rw [if_neg (by omega)]
    cases hb : blB (shgK (altS (wnK s co z) i b x) (lnK (altS (wnK s co z) i b x))) ((co.length : Int) + 1) with
    | false => rfl
    | true =>
      exfalso
      have hL : lnK (altS (wnK s co z) i b x) = s.length := by unfold lnK; rw [if_neg (by omega)]; exact h.eql 0 (by omega)
      rw [hL] at hb
      have hg : gR (shgK (altS (wnK s co z) i b x) s.length) b = Py.itP (coX (altS (wnK s co z) i b x)) (coY (altS (wnK s co z) i b x) b) := by rw [gR_eq (by rw [shgK_length]; exact h.fb)]; simp [shgK]
      unfold blB at hb
      rw [List.all_eq_true] at hb
      have h1 := hb b (List.mem_range.2 (by rw [shgK_length]; exact h.fb))
      rw [hg] at h1
      have h2 := of_decide_eq_true h1
      exact h.not _ (by rw [tl_itP]; omega) (fun j hj => it_val h.dst (by omega))
  obtain ⟨g1, g2⟩ := ag_good (l := altS (wnK s co z) i b x) (t := (co.length : Int) + 1) (by rw [hE]; decide)
  refine ⟨g1, by rw [g2, hE]; rfl, by rw [ck_ag, hE], by unfold cbL; rw [ck_ag, hE, if_neg (by decide)]⟩
theorem Alt.l0 (h : Alt s co z i b x) : (gS (altS (wnK s co z) i b x) 0).2.length = s.length := h.eql 0 (by have := h.len; have := h.ftn; omega)
theorem Alt.short (h : Alt s co z i b x) (hn : z.length < co.length + 1 + 2) : wrF (altS (wnK s co z) i b x) (co.length + 1) = none := by
  have hl := h.len
  have htn := h.ftn
  unfold wrF
  rw [h.l0]
  cases e : wrK (altS (wnK s co z) i b x) (co.length + 1) (((altS (wnK s co z) i b x).length - (co.length + 1)) / 2) s.length with
  | none => rfl
  | some wl =>
    exfalso
    obtain ⟨p, hp⟩ := wrK_near _ _ e b h.fb
    have h0 := hp.2
    rw [coX_length, hl] at h0
    refine h.not p hp.1 (fun j hj => ?_)
    have := dsK_all (xs := coX (altS (wnK s co z) i b x)) (ys := coY (altS (wnK s co z) i b x) b) (p := p) z.length (by omega) j hj
    rw [gB_coX (by omega), coY, gB_tab _ (by omega)] at this
    exact this
theorem Alt.found (h : Alt s co z i b x) (hn : co.length + 1 + 2 ≤ z.length) : wrF (altS (wnK s co z) i b x) (co.length + 1) = some [gI z i] := by
  have hl := h.len
  have htn := h.ftn
  have hn64 := h.fn
  obtain ⟨wl, h1, h2, h3⟩ := wrK_right (t := co.length + 1) h.dst (by omega) (by omega) (by omega) (fun k => spP s co k) s.length (fun k hk => ⟨by rw [spP_length]; exact Nat.le_refl _, by
    have := h.ds hk
    rw [coX_length, hl]; omega⟩)
  have hr : reK (altS (wnK s co z) i b x) wl z.length = [gI z i] := by
    rw [reK_one (i := i) z.length (fun j hj => ?_), if_pos h.fi, h.gx, gS_wnK h.fi]
    rw [h3 j (by omega)]
    constructor
    · rintro ⟨k, hk, e⟩
      apply Classical.byContradiction
      intro hne
      exact e (h.val hj hk (fun e => hne e.1))
    · rintro rfl
      refine ⟨b, h.fb, fun e => ?_⟩
      rw [h.ga, h.gb hj h.fb, if_pos ⟨rfl, rfl⟩, ← wnK_val hj h.fb] at e
      exact h.fx e.symm
  unfold wrF
  rw [h.l0, h1]
  simp only
  rw [hl, hr, if_neg (by simp; omega)]
  simp [isort]
end
end Go.Proofs.Ytakedococfklgaa
