/- The reference's Look. -/
import Derived.Test.YtklfficlegfhjaaGreatMcm
namespace Go.Proofs.YtklfficlegfhjaaGreat
open Go Go.RowKit Gf Sha

section
variable {ws : List Wt} {hs : List Hd} {ex : Option Int} {first : Bool} {bu : Nat}
theorem rlk_stop {r : List Wt} {ps : List Pl} {s : RS} (h : ({ s with n := s.n + 1 } : RS).stop first bu = true) : rlook ws hs ex first bu r ps s = { s with n := s.n + 1 } := by
 cases r <;> (unfold rlook; simp only; rw [if_pos h])
theorem rlk_nil {ps : List Pl} {s : RS} (h : ({ s with n := s.n + 1 } : RS).stop first bu = false) : rlook ws hs ex first bu [] ps s = if !s.fnd || (!first && greaterB (surplL ws ps) (surplL ws s.best)) then { s with n := s.n + 1, fnd := true, best := ps } else { s with n := s.n + 1 } := by
 unfold rlook
 rw [if_neg (by rw [h]; decide)]
theorem rlk_cons {w : Wt} {r : List Wt} {ps : List Pl} {s : RS} (h : ({ s with n := s.n + 1 } : RS).stop first bu = false) : rlook ws hs ex first bu (w :: r) ps s = rgo first bu (fun c s => rlook ws hs ex first bu r (addL w ps c) s) (rchoices ws hs ps ex w) { s with n := s.n + 1 } := by
 rw [rlook]
 rw [if_neg (by rw [h]; decide)]
theorem rgo_halt {f : List Int → RS → RS} {s : RS} (h : s.stop first bu = true) : ∀ L, rgo first bu f L s = s
 | [] => rfl
 | c :: L => by rw [rgo, if_pos h]
theorem rgo_cons {f : List Int → RS → RS} {s : RS} (h : s.stop first bu = false) (c : List Int) (L : List (List Int)) : rgo first bu f (c :: L) s = rgo first bu f L (f c s) := by
 rw [rgo, if_neg (by rw [h]; decide)]
theorem choices_none {ps : List Pl} {w : Wt} : rchoices ws hs ps none w = choL (freeL ws hs ps w) (0, (min (freeL ws hs ps w).length (withoutL w ps).length : Nat)) := by
 unfold rchoices choL
 simp only
 rw [if_neg (by omega)]
 simp
theorem choices_far {ps : List Pl} {w : Wt} {x : Int} (h : w.to < w.da + x) : rchoices ws hs ps (some x) w = [] := by
 unfold rchoices
 simp only
 rw [if_pos h]
theorem choices_some {ps : List Pl} {w : Wt} {x : Int} (h : ¬ w.to < w.da + x) (h0 : 0 ≤ w.da + x) : rchoices ws hs ps (some x) w = choL (freeL ws hs ps w) (w.da + x, w.da + x) := by
 rw [choL_step _ h0 (Int.le_refl _), choL_end _ (by omega), List.append_nil]
 unfold rchoices
 simp only
 rw [if_neg h]
end
abbrev seC (A : Option Addr) (n c : Nat) (B : Option Addr) (m d : Nat) (x : Int) (first : Bool) (bu : Nat) (sn : Nat) (fnd : Bool) (F : Option Addr) (f e : Nat) : List Value :=
 [.slice A n c, .slice B m d, .int .i64 x, .bool first, .int .i64 (bu : Int), .int .i64 (sn : Int), .bool fnd, .slice F f e]
/-- The search in its block, its wants, holders and best places. -/
def SSt (g : Nat) (A : Option Addr) (n c : Nat) (B : Option Addr) (m d : Nat) (x : Int) (first : Bool) (bu : Nat) (w wr : World) (s : RS) : Prop :=
 ∃ F f e, BL wr g 106 (seC A n c B m d x first bu s.n s.fnd F f e) ∧ LS rPl 3 32 wr F f e s.best ∧ (0 < f → ∀ a, F = some a → a.block ≠ g) ∧ f ≤ 1000 ∧ s.n ≤ bu + 1 ∧ Kp (· = g) w wr
section
variable {g : Nat} {A : Option Addr} {n c : Nat} {B : Option Addr} {m d : Nat} {x : Int} {first : Bool} {bu : Nat} {w wr w' : World} {s : RS}
theorem SSt.kept (h : SSt g A n c B m d x first bu w wr s) (hb : Below wr.heap.size wr w') : SSt g A n c B m d x first bu w w' s :=
 let ⟨F, f, e, h1, h2, h3, h4, h5, h6⟩ := h; ⟨F, f, e, h1.kept hb, h2.kept stay_pl hb, h3, h4, h5, h6.trans (Kp.of_below hb)⟩
theorem SSt.here (h : SSt g A n c B m d x first bu w wr s) : SSt g A n c B m d x first bu wr wr s :=
 let ⟨F, f, e, h1, h2, h3, h4, h5, _⟩ := h; ⟨F, f, e, h1, h2, h3, h4, h5, Kp.refl _ _⟩
theorem SSt.then (h : SSt g A n c B m d x first bu wr w' s) (hk : Kp (· = g) w wr) : SSt g A n c B m d x first bu w w' s :=
 let ⟨F, f, e, h1, h2, h3, h4, h5, h6⟩ := h; ⟨F, f, e, h1, h2, h3, h4, h5, hk.trans h6⟩
theorem SSt.kp (h : SSt g A n c B m d x first bu w wr s) : Kp (· = g) w wr := let ⟨_, _, _, _, _, _, _, _, h6⟩ := h; h6
theorem SSt.lt (h : SSt g A n c B m d x first bu w wr s) : g < wr.heap.size := let ⟨_, _, _, h1, _⟩ := h; h1.lt
end
theorem LS.kpg {α : Type} {C : α → List Value} {ok : α → Prop} {s b n c g : Nat} {w w' : World} {A : Option Addr} {L : List α} (h : LS (fun _ cs x => cs = C x ∧ ok x) s b w A n c L) (hk : Kp (· = g) w w') (hn : 0 < n → ∀ a, A = some a → a.block ≠ g) : LS (fun _ cs x => cs = C x ∧ ok x) s b w' A n c L := by
 by_cases h0 : 0 < n
 ·
  exact LS.kpn (w' := w') (S := (· = g)) h (fun _ _ h => h) hk (hn h0)
 ·
  exact ⟨h.1, h.2.1, h.2.2.1, fun k hk => absurd hk (by rw [h.1]; omega)⟩
end Go.Proofs.YtklfficlegfhjaaGreat
