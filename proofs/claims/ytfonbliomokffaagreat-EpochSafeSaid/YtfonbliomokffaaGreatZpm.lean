/- The town's step: any act. -/
import Derived.Test.YtfonbliomokffaaGreatZjm
import Derived.Test.YtfonbliomokffaaGreatZlm
import Derived.Test.YtfonbliomokffaaGreatZnm
import Derived.Test.YtfonbliomokffaaGreatZom
namespace Go.Proofs.YtfonbliomokffaaGreat
open Go Go.RowKit Gf Sha

/-- The town after an act. -/
def stepT (T : Tn) (k : Int) (u o : Nat) (st : UInt8) : Tn :=
 if T.wr (3 * u + u) = false then T
 else if k = 0 then T.need u (mB st)
 else if k = 1 then T.releaseK u (mZ st) 8
 else if k = 2 then T.propC u (mB st)
 else if k = 3 then T.learnK u o 3
 else if k = 4 then T.replyAll u
 else if k = 5 then T.expelC o
 else if k = 6 then T.addC u
 else T
theorem step_inv {three : Bool} {k : Nat} {T : Tn} (h : Inv three k (41 * k) T) (hk : k < 40) {u o : Nat} (hu : u < 3) (ho : o < 3) (kd : Int) (st : UInt8) : Inv three (k + 1) (41 * (k + 1)) (stepT T kd u o st) := by
 have hL : 41 * k ≤ 2000 := by omega
 have mo : ∀ T', Inv three k (41 * k) T' → Inv three (k + 1) (41 * (k + 1)) T' := fun T' h' => h'.mono (by omega) (by omega)
 cases hw : T.wr (3 * u + u) with
 | false => unfold stepT; rw [if_pos hw]; exact mo _ h
 | true =>
  have ha : T.wr (4 * u) = true := by rw [show 4 * u = 3 * u + u by omega]; exact hw
  unfold stepT
  rw [if_neg (by rw [hw]; decide)]
  by_cases k0 : kd = 0
  ·
   rw [if_pos k0]; exact mo _ (h.need hu ha _)
  rw [if_neg k0]
  by_cases k1 : kd = 1
  ·
   rw [if_pos k1]; exact mo _ (h.release u _)
  rw [if_neg k1]
  by_cases k2 : kd = 2
  ·
   rw [if_pos k2]
   unfold Tn.propC
   by_cases hne : propK T u (mB st) 8 = []
   ·
    rw [if_pos hne]; exact mo _ h
   ·
    rw [if_neg hne]
    exact (h.propose (by omega) hu ha (prop_valid hu hw _ hne) rfl rfl rfl (fun s hs hm => propK_not hs hm)).mono (Nat.le_refl _) (by omega)
  rw [if_neg k2]
  by_cases k3 : kd = 3
  ·
   rw [if_pos k3]; exact mo _ (h.learn hL hu ho ha)
  rw [if_neg k3]
  by_cases k4 : kd = 4
  ·
   rw [if_pos k4]
   unfold Tn.replyAll
   have hP := pend_len h.l u
   have hn := h.n3
   refine (Inv.replies hu (pendL (dd (T.view u)) 0 (u : Int)) h (by omega) ha (fun q hq => ?_)).mono (by omega) (by omega)
   rw [dd_self (h.l.distv u)] at hq
   exact pvi_of.1 (List.mem_filter.1 hq).1
  rw [if_neg k4]
  by_cases k5 : kd = 5
  ·
   rw [if_pos k5]
   unfold Tn.expelC
   by_cases hc : T.ad = false ∨ (o : Int) ≠ T.bw
   ·
    rw [if_pos hc]; exact mo _ (h.expel hc)
   ·
    rw [if_neg hc]; exact mo _ h
  rw [if_neg k5]
  by_cases k6 : kd = 6
  ·
   rw [if_pos k6]
   unfold Tn.addC
   by_cases hc : T.ad = false ∧ u < 2 ∧ T.ex u = false
   ·
    rw [if_pos hc]; exact mo _ (h.add hL hc.2.1 ha hc.1 hc.2.2)
   ·
    rw [if_neg hc]; exact mo _ h
  rw [if_neg k6]
  exact mo _ h
/-- The town at the start. -/
def t0W (three : Bool) (k i : Nat) : Bool := decide (i < k) && (three || (decide (i / 3 < 2) && decide (i % 3 < 2)))
def t0 (three : Bool) : Tn := ⟨fun _ => [], fun _ => 0, t0W three 9, fun _ => false, fun _ => false, three, -1⟩
theorem t0_inv (three : Bool) : Inv three 0 (41 * 0) (t0 three) := by
 refine ⟨⟨fun d _ i x hx => (by cases hx), fun _ _ _ _ => Nat.le_refl _, fun _ _ => rfl⟩, fun u _ x hx => (by cases hx), fun u _ p hp => ?_, fun p hp => ?_, fun w hw ha u hu hc => ?_, fun ht hb => ?_, fun ht hb => ⟨rfl, ?_, fun _ _ => rfl⟩, fun ht => ht, Nat.le_refl _, Nat.le_refl _⟩
 ·
  obtain ⟨⟨x, hx, _⟩, _⟩ := hp
  cases hx
 ·
  obtain ⟨⟨x, hx, _⟩, _⟩ := hp
  cases hx
 ·
  have key : ∀ three, ∀ w, w < 3 → ∀ u, u < 3 → t0W three 9 (4 * w) = true → (u < 2 ∨ three = true) → t0W three 9 (3 * w + u) = true := by decide
  exact key three w hw u hu ha hc
 ·
  have hb' : three = true := hb
  rw [ht] at hb'; cases hb'
 ·
  rw [ht]; rfl
theorem do_any (w0 : World) (g : Nat) (T : Tn) (v : Nat → Value) (u o : Nat) (kd : Int) (st : UInt8) (w : World) (h : TM w0 w g T v) (hi : InvL T) (hl : T.all.length ≤ 2000) (hu : u < 3) (ho : o < 3) :
  Calls Tryz.prog 21 #[.pointer (some ⟨g, 0, none⟩), .agg (acC ⟨kd, (u : Int), (o : Int), st⟩).toArray] w fun e w' => e = .returned (.bool true) ∧ ∃ v', TM w0 w' g (stepT T kd u o st) v' := by
 unfold stepT
 cases hw : T.wr (3 * u + u) with
 | false => rw [if_pos rfl]; exact do_not w0 g T v u kd (o : Int) st w h hu hw
 | true =>
  rw [if_neg (by decide)]
  by_cases k0 : kd = 0
  ·
   rw [if_pos k0, k0]; exact do_need w0 g T v u (o : Int) st w h hi hl hu hw
  rw [if_neg k0]
  by_cases k1 : kd = 1
  ·
   rw [if_pos k1, k1]; exact do_release w0 g T v u (o : Int) st w h hu hw
  rw [if_neg k1]
  by_cases k2 : kd = 2
  ·
   rw [if_pos k2, k2]; exact do_propose w0 g T v u (o : Int) st w h hi hl hu hw
  rw [if_neg k2]
  by_cases k3 : kd = 3
  ·
   rw [if_pos k3, k3]; exact do_learn w0 g T v u o st w h hu ho hw
  rw [if_neg k3]
  by_cases k4 : kd = 4
  ·
   rw [if_pos k4, k4]; exact do_reply w0 g T v u (o : Int) st w h hi hl hu hw
  rw [if_neg k4]
  by_cases k5 : kd = 5
  ·
   rw [if_pos k5, k5]; exact do_expel w0 g T v u o st w h hu ho hw
  rw [if_neg k5]
  by_cases k6 : kd = 6
  ·
   rw [if_pos k6, k6]; exact do_add w0 g T v u (o : Int) st w h hu hw
  rw [if_neg k6]
  exact do_none w0 g T v u kd (o : Int) st w h hu (by omega) hw
end Go.Proofs.YtfonbliomokffaaGreat
