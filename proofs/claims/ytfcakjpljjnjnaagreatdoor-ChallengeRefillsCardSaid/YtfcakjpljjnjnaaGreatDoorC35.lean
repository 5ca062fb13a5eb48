/- Several texts in one: Red0, Cau, Ker, Red1, Loc0. -/
import Derived.Test.YtfcakjpljjnjnaaGreatDoorC34
import Derived.Laws.CopyRow
import Derived.Test.YtfcakjpljjnjnaaGreatDoorC1
import Derived.Test.YtfcakjpljjnjnaaGreatDoorC32
import Derived.Test.YtfcakjpljjnjnaaGreatDoorC15
import Derived.Laws.CopyOwn
/- A table of bytes that a call owns, row by row in blocks of their own; Zero and Cols of kinkeepref04. -/
namespace Go.Proofs.YtfcakjpljjnjnaaGreatDoor
open Go.RowKit Gf

attribute [local go_sem] Gf.xor_bits Gf.and_bits Gf.or_bits Gf.ne_zero_iff Gf.eq_zero_iff Gf.eq_one_iff Gf.beq_bytes Gf.bne_bytes Gf.bv_toNat

/-- The outer block gO (capacity cap) holds n slices of W bytes; row i lies in block G i and reads as row i of m. -/
structure Tab (w : World) (base gO cap n W : Nat) (G : Nat → Nat) (m : List (List UInt8)) : Prop where
 len : m.length = n
 rect : Rect m W
 outer : ∃ cur : Array Value, Blk w gO 39 cur ∧ n ≤ cap ∧ cur.size = cap ∧ ∀ i, i < n → cur[i]? = some (.slice (some ⟨G i, 0, none⟩) W W)
 rows : ∀ i, i < n → Blk w (G i) 5 (row (gR m i))
 inj : ∀ i j, i < n → j < n → i ≠ j → G i ≠ G j
 far : ∀ i, i < n → G i ≠ gO
 old : base ≤ gO ∧ ∀ i, i < n → base ≤ G i

variable {w w' : World} {base gO cap n W : Nat} {G : Nat → Nat} {m : List (List UInt8)}
theorem Tab.cell (h : Tab w base gO cap n W G m) {i : Nat} (hi : i < n) : w.cell? ⟨gO, i, none⟩ = some (.slice (some ⟨G i, 0, none⟩) W W) := by
 obtain ⟨cur, h1, _, _, h2⟩ := h.outer
 rw [h1.cell]; exact h2 i hi
theorem Tab.outFrozen (h : Tab w base gO cap n W G m) (i : Nat) : w.frozen? ⟨gO, i, none⟩ = false := by
 obtain ⟨cur, h1, _⟩ := h.outer
 exact h1.frozen i
theorem Tab.at_ (h : Tab w base gO cap n W G m) {i k : Nat} (hi : i < n) (hk : k < W) : w.cell? ⟨G i, k, none⟩ = some (B (gB (gR m i) k)) := by
 rw [(h.rows i hi).cell]; exact row_get _ _ (by rw [h.rect i (by rw [h.len]; exact hi)]; exact hk)
theorem Tab.frozen (h : Tab w base gO cap n W G m) {i : Nat} (hi : i < n) (k : Nat) : w.frozen? ⟨G i, k, none⟩ = false := (h.rows i hi).frozen k
theorem Tab.kept (h : Tab w base gO cap n W G m) (hb : Below w.heap.size w w') : Tab w' base gO cap n W G m := by
 obtain ⟨cur, h1, h2⟩ := h.outer
 exact ⟨h.len, h.rect, ⟨cur, h1.kept hb, h2⟩, fun i hi => (h.rows i hi).kept hb, h.inj, h.far, h.old⟩
theorem Tab.drew (h : Tab w base gO cap n W G m) : Tab w.drew base gO cap n W G m := ⟨h.len, h.rect, h.outer, h.rows, h.inj, h.far, h.old⟩
theorem Tab.ms (h : Tab w base gO cap n W G m) (hn : n * 24 ≤ lim) (hW : W ≤ lim) : MS w (some ⟨gO, 0, none⟩) n cap m := by
 obtain ⟨cur, h1, h2, _, _⟩ := h.outer
 refine ⟨h.len, h2, hn, fun k hk => ⟨gO, 0, some ⟨G k, 0, none⟩, W, W, rfl, by rw [Nat.zero_add]; exact h.cell hk, BS.of_blk (h.rows k hk) (h.rect k (by rw [h.len]; exact hk)) hW⟩⟩
/-- A whole row is put. -/
theorem Tab.putRow (h : Tab w base gO cap n W G m) {i : Nat} (hi : i < n) {l : List UInt8} (hl : l.length = W) (hB : Blk w' (G i) 5 (row l)) (hk : ∀ g t cs, g ≠ G i → Blk w g t cs → Blk w' g t cs) : Tab w' base gO cap n W G (m.set i l) := by
 obtain ⟨cur, h1, h2⟩ := h.outer
 refine ⟨by simp [h.len], fun j hj => ?_, ⟨cur, hk _ _ _ (fun e => h.far i hi e.symm) h1, h2⟩, fun j hj => ?_, h.inj, h.far, h.old⟩
 ·
  by_cases e : i = j
  ·
   subst e; rw [gR_set_self (by rw [h.len]; exact hi)]; exact hl
  ·
   rw [gR_set_ne e]; exact h.rect j (by simpa using hj)
 ·
  by_cases e : i = j
  ·
   subst e; rw [gR_set_self (by rw [h.len]; exact hi)]; exact hB
  ·
   rw [gR_set_ne e]; exact hk _ _ _ (h.inj j i hj hi (fun e' => e e'.symm)) (h.rows j hj)
/-- One byte is put. -/
theorem Tab.put (h : Tab w base gO cap n W G m) {i : Nat} (hi : i < n) (k : Nat) (b : UInt8) : Tab (w.setCell ⟨G i, k, none⟩ (B b)) base gO cap n W G (m.set i ((gR m i).set k b)) :=
 h.putRow hi (by rw [List.length_set]; exact h.rect i (by rw [h.len]; exact hi)) (by rw [← row_set]; exact (h.rows i hi).set_ k (B b)) (fun _ _ _ hg hB => hB.far hg _)
theorem swp_inj (a b i j : Nat) (h : (if a = j then i else if a = i then j else a) = (if b = j then i else if b = i then j else b)) : a = b := by
 repeat' split at h
 all_goals omega
/-- Two rows change places. -/
theorem Tab.swap (h : Tab w base gO cap n W G m) {i j : Nat} (hi : i < n) (hj : j < n) : Tab ((w.setCell ⟨gO, i, none⟩ (.slice (some ⟨G j, 0, none⟩) W W)).setCell ⟨gO, j, none⟩ (.slice (some ⟨G i, 0, none⟩) W W)) base gO cap n W (fun k => G (if k = j then i else if k = i then j else k)) (swp m i j) := by
 obtain ⟨cur, h1, h2, h3, h4⟩ := h.outer
 have hsw : ∀ k, k < n → (if k = j then i else if k = i then j else k) < n := fun k hk => by
  by_cases e1 : k = j
  ·
   rw [if_pos e1]; exact hi
  ·
   rw [if_neg e1]
   by_cases e2 : k = i
   ·
    rw [if_pos e2]; exact hj
   ·
    rw [if_neg e2]; exact hk
 refine ⟨by rw [swp_length, h.len], swp_rect _ _ _ _ h.rect (by rw [h.len]; exact hi) (by rw [h.len]; exact hj), ⟨_, (h1.set_ i _).set_ j _, h2, by simp [h3], fun k hk => ?_⟩, fun k hk => ?_, fun a b ha hb hab => ?_, fun k hk => h.far _ (hsw k hk), h.old.1, fun k hk => h.old.2 _ (hsw k hk)⟩
 ·
  rw [Array.getElem?_setIfInBounds]
  by_cases ej : j = k
  ·
   subst ej; simp [h3]; omega
  ·
   rw [if_neg ej, Array.getElem?_setIfInBounds]
   by_cases ei : i = k
   ·
    subst ei
    rw [if_pos rfl, if_pos (by omega), if_neg (fun e => ej e.symm), if_pos rfl]
   ·
    rw [if_neg ei, h4 k hk, if_neg (fun e => ej e.symm), if_neg (fun e => ei e.symm)]
 ·
  rw [swp_get _ _ _ _ (by rw [h.len]; exact hi) (by rw [h.len]; exact hj) (by rw [h.len]; exact hk)]
  exact ((h.rows _ (hsw k hk)).far (h.far _ (hsw k hk)) _).far (h.far _ (hsw k hk)) _
 ·
  exact h.inj _ _ (hsw a ha) (hsw b hb) (fun e => hab (swp_inj a b i j e))
theorem Tab.putBelow (h : Tab w base gO cap n W G m) {w0 : World} (hb : Below base w0 w) {i : Nat} (hi : i < n) (k : Nat) (v : Value) : Below base w0 (w.setCell ⟨G i, k, none⟩ v) := hb.setCell (h.old.2 i hi) v

def zmat (n W : Nat) : List (List UInt8) := List.replicate n (zeros W)
theorem zmat_get {n W i : Nat} (h : i < n) : gR (zmat n W) i = zeros W := by rw [gR_eq (by simpa [zmat] using h)]; simp [zmat]
theorem zmat_rect (n W : Nat) : Rect (zmat n W) W := fun i hi => by rw [zmat_get (by simpa [zmat] using hi), zeros_length]

/-- What Zero has after k rows. -/
def ZeI (k W : Nat) (v : Value) (w wr : World) : Prop :=
 ∃ (ps : List Value) (G : Nat → Nat), wr.ownsRow w.heap.size 39 1 v k ps ∧ Below w.heap.size w wr ∧ (∀ i, i < k → ps[i]? = some (.slice (some ⟨G i, 0, none⟩) W W) ∧ Blk wr (G i) 5 (row (zeros W)) ∧ w.heap.size ≤ G i) ∧ (∀ i j, i < k → j < k → i ≠ j → G i ≠ G j)
def addG (G : Nat → Nat) (k g i : Nat) : Nat := if i < k then G i else g
theorem addG_lo {G : Nat → Nat} {k g i : Nat} (h : i < k) : addG G k g i = G i := if_pos h
theorem addG_hi {G : Nat → Nat} {k g i : Nat} (h : ¬ i < k) : addG G k g i = g := if_neg h
def ZeRet (n W : Nat) (w : World) (e : Ending) (w' : World) : Prop := ∃ (gO cap : Nat) (G : Nat → Nat), e = .returned (.slice (some ⟨gO, 0, none⟩) n cap) ∧ Tab w' w.heap.size gO cap n W G (zmat n W) ∧ Below w.heap.size w w'

set_option maxRecDepth 100000 in
set_option maxHeartbeats 1000000 in
theorem zero_any (n W : Nat) (w : World) (hn : 0 < n) (hn8 : n ≤ 64) (hW : W ≤ 140737488355328) :
  Calls Tryz.prog 121 #[.int .i64 (n : Int), .int .i64 (W : Int)] w (ZeRet n W w) := by
 have hmk := make_bytes W hW
 have hn8' : (n : Int) ≤ 64 := by omega
 go_enter Tryz.func121, Tryz.ntmps121
 go_wp2_with fail
 have HO : Hid (ZeI 0 W (.slice (some ⟨w.heap.size, 0, none⟩) 0 0) w (w.alloc (.cells #[] 39))) := Lib.hid ⟨[], fun _ => 0, World.ownsRow_lit w #[] 0 (Nat.le_refl _) (by simp [maxLen]) rfl, (Below.refl _ _).alloc (Nat.le_refl _) _, fun i hi => absurd hi (by omega), fun i _ hi => absurd hi (by omega)⟩
 go_loopw [5, 6] (fun v i wr => ∃ k : Nat, k ≤ n ∧ i = .int .i64 (k : Int) ∧ Hid (ZeI k W v w wr)) (fun _ i _ => n - (intOf i).toNat)
 case atStart => exact ⟨0, by omega, rfl, HO⟩
 case round =>
  obtain ⟨k, hk, rfl, hI⟩ := hrel
  by_cases hlt : k < n
  ·
   obtain ⟨ps, G, hown, hb, hps, hinj⟩ := hI.out
   obtain ⟨wA, hwA⟩ : ∃ wA, wA = (wr.alloc (.cells (row (zeros W)) 5)).alloc (.cells #[.slice (some ⟨wr.heap.size, 0, none⟩) W W] 39) := ⟨_, rfl⟩
   have hbA : Below wr.heap.size wr wA := by rw [hwA]; exact ((Below.refl _ _).alloc (Nat.le_refl _) _).alloc (by simp) _
   have HOW := Lib.hid (Kp.own (S := fun _ => False) (Kp.of_below hbA) hown (fun _ _ => id))
   have HKA : Hid (Blk wA (wr.heap.size + 1) 39 #[.slice (some ⟨wr.heap.size, 0, none⟩) W W]) := Lib.hid (by rw [hwA]; exact Blk.new1 wr _ _ _)
   have HKZ : Hid (Blk wA wr.heap.size 5 (row (zeros W))) := Lib.hid (by rw [hwA]; exact (Blk.new wr _ _).alloc _)
   have HSA : Hid (w.heap.size ≤ wA.heap.size) := Lib.hid (Nat.le_trans hb.size hbA.size)
   have HBA := Lib.hid hbA
   have HB := Lib.hid hb
   have HPS := Lib.hid hps
   have HIN := Lib.hid hinj
   have HOWN := Lib.hid hown
   have HWA := Lib.hid hwA
   clear hown hb hps hinj hbA hwA hI HO
   go_wp2_with (first
    | (at_builtin; rw [← HWA.out]; refine wpList_app1 wA rfl (.tmp 13) (.tmp 16) 45 39 (.slice none 0 0) 24 Tryz.underlying45 infoBytes rfl rfl w.heap.size u5 k ps rfl HOW.out (wr.heap.size + 1) 1 39 (.slice (some ⟨wr.heap.size, 0, none⟩) W W) rfl HKA.out rfl (by omega) (by omega) HSA.out ?_; intro v4 w4 hp4))
   have HR : Hid (ZeI (k + 1) W v4 w w4) := by
    have hpl : ps.length = k := by have := HOWN.out.1; simpa using this
    have hK : Kp (fun b => u5.ownBlock = some b) wA w4 := (Kp.refl _ _).grown hp4.2.1 (fun _ e => .inl e)
    refine Lib.hid ⟨ps ++ [.slice (some ⟨wr.heap.size, 0, none⟩) W W], addG G k wr.heap.size, hp4.1, (below_thenB HB.out HB.out.size HBA.out).grown hp4.2.1 HSA.out (fun b hb' => own_base HOWN.out b hb'), fun i hi => ?_, fun i j hi hj hne => ?_⟩
    ·
     by_cases hik : i < k
     ·
      obtain ⟨q1, q2, q3⟩ := HPS.out i hik
      rw [addG_lo hik]
      exact ⟨by rw [List.getElem?_append_left (by omega)]; exact q1, hK.blk (q2.kept HBA.out) (own_ne (e := 39) HOW.out (q2.kept HBA.out) (by decide)), q3⟩
     ·
      obtain rfl : i = k := by omega
      rw [addG_hi hik]
      exact ⟨by rw [List.getElem?_append_right (by omega), hpl, Nat.sub_self]; rfl, hK.blk HKZ.out (own_ne (e := 39) HOW.out HKZ.out (by decide)), HB.out.size⟩
    ·
     by_cases hik : i < k <;> by_cases hjk : j < k
     ·
      rw [addG_lo hik, addG_lo hjk]; exact HIN.out i j hik hjk hne
     ·
      rw [addG_lo hik, addG_hi hjk]; have := (HPS.out i hik).2.1.lt; omega
     ·
      rw [addG_hi hik, addG_lo hjk]; have := (HPS.out j hjk).2.1.lt; omega
     ·
      omega
   clear hp4
   go_roundw
   case rel => exact ⟨k + 1, by omega, by go_num, HR⟩
   case measure => simp [intOf]; omega
  ·
   obtain rfl : k = n := by omega
   obtain ⟨ps, G, hown, hb, hps, hinj⟩ := hI.out
   have HR : Hid (ZeRet k W w (.returned u5) wr) := by
    rcases hown.2 with ⟨_, h0⟩ | ⟨gO, cap, cur, rfl, hbase, hB, h1, h2, h3, h4⟩
    ·
     omega
    ·
     refine Lib.hid ⟨gO, cap, G, rfl, ⟨by simp [zmat], zmat_rect k W, ⟨cur, hB, h1, by simpa using h3, fun i hi => ?_⟩, fun i hi => by rw [zmat_get hi]; exact (hps i hi).2.1, hinj, fun i hi e => ?_, hbase, fun i hi => (hps i hi).2.2⟩, hb⟩
     ·
      have := hown.cellAt i (by have := hown.1; omega)
      rw [Blk.cell (show Blk wr gO 39 cur from hB)] at this
      rw [this]; exact (hps i hi).1
     ·
      have h5 := (hps i hi).2.1
      rw [e] at h5
      have h6 : Blk wr gO 39 cur := hB
      unfold Blk at h5 h6
      rw [h5] at h6
      injection h6 with h6
      injection h6 with _ h7
      exact absurd h7 (by decide)
   clear hown hb hps hinj hI HO
   go_wp2_with fail
   go_ret
   exact HR.out

set_option maxHeartbeats 400000 in
theorem cols_any (A : Option Addr) (n c : Nat) (m : List (List UInt8)) (W : Nat) (w : World) (h : MS w A n c m) (hr : Rect m W) (hn : 0 < n) :
  Calls Tryz.prog 122 #[.slice A n c] w fun e w' => e = .returned (.int .i64 (W : Int)) ∧ w = w' := by
 have hq : ((n : Int) == 0) = false := by simp; omega
 obtain ⟨g, o, A1, n1, c1, rfl, hc, hr1⟩ := h.at_ (Below.refl _ _) hn
 obtain rfl : n1 = W := by rw [← hr1.1]; exact hr 0 (by rw [h.1]; exact hn)
 rw [Nat.add_zero] at hc
 clear h hr1 hr
 go_enter Tryz.func122, Tryz.ntmps122
 go_wp2_with fail
 go_ret
 exact ⟨rfl, rfl⟩
end Go.Proofs.YtfcakjpljjnjnaaGreatDoor
/- Sums over GF(256), and that the rows of a Cauchy matrix are independent: plain. -/
namespace Go.Proofs.YtfcakjpljjnjnaaGreatDoor
open Gf

/-- The sum of f over a list. -/
def sumL (S : List UInt8) (f : UInt8 → UInt8) : UInt8 := (S.map f).foldr (· ^^^ ·) 0
theorem sumL_nil (f : UInt8 → UInt8) : sumL [] f = 0 := rfl
theorem sumL_cons (c : UInt8) (S : List UInt8) (f : UInt8 → UInt8) : sumL (c :: S) f = f c ^^^ sumL S f := rfl
theorem sumL_congr {S : List UInt8} {f g : UInt8 → UInt8} (h : ∀ c ∈ S, f c = g c) : sumL S f = sumL S g := by
 induction S with
 | nil => rfl
 | cons c S ih =>
  rw [sumL_cons, sumL_cons, h c (by simp), ih (fun x hx => h x (by simp [hx]))]
theorem sumL_xor (S : List UInt8) (f g : UInt8 → UInt8) : sumL S (fun c => f c ^^^ g c) = sumL S f ^^^ sumL S g := by
 induction S with
 | nil => simp [sumL_nil]
 | cons c S ih => rw [sumL_cons, sumL_cons, sumL_cons, ih, xor4]
theorem sumL_mul (S : List UInt8) (a : UInt8) (f : UInt8 → UInt8) : sumL S (fun c => mul a (f c)) = mul a (sumL S f) := by
 induction S with
 | nil => simp [sumL_nil, mul_zero]
 | cons c S ih => rw [sumL_cons, sumL_cons, ih, mul_xor]

theorem xor_ne {a b : UInt8} (h : a ≠ b) : a ^^^ b ≠ 0 := fun e => h (by
 have : a ^^^ b ^^^ b = b := by rw [e]; simp
 rwa [xor_assoc, xor_cancel, UInt8.xor_zero] at this)
theorem mul_eq_zero {a b : UInt8} (h : mul a b = 0) (ha : a ≠ 0) : b = 0 := by
 have : mul (inv a) (mul a b) = 0 := by rw [h, mul_zero]
 rwa [← mul_assoc, mul_comm (inv a) a, mul_inv a ha, one_mul] at this
theorem inv_ne {a : UInt8} (ha : a ≠ 0) : inv a ≠ 0 := fun e => by
 have := mul_inv a ha; rw [e, mul_zero] at this; exact absurd this (by decide)

/-- (r + c0) / (r + c) = 1 + (c + c0) / (r + c). -/
theorem frac (r c c0 : UInt8) (h : r ≠ c) : mul (r ^^^ c0) (inv (r ^^^ c)) = 1 ^^^ mul (c ^^^ c0) (inv (r ^^^ c)) := by
 have e : r ^^^ c0 = (r ^^^ c) ^^^ (c ^^^ c0) := by
  rw [xor_assoc, ← xor_assoc c c c0, xor_cancel, UInt8.zero_xor]
 conv => lhs; rw [e]
 rw [xor_mul, mul_inv _ (xor_ne h)]
/-- 1 / (r + c) + 1 / (r0 + c) = (r + r0) / ((r + c) (r0 + c)). -/
theorem frac2 (r r0 c : UInt8) (h : r ≠ c) (h0 : r0 ≠ c) : inv (r ^^^ c) ^^^ inv (r0 ^^^ c) = mul (r ^^^ r0) (mul (inv (r ^^^ c)) (inv (r0 ^^^ c))) := by
 have e : r ^^^ r0 = (r ^^^ c) ^^^ (r0 ^^^ c) := by
  rw [xor_comm r0 c, xor_assoc, ← xor_assoc c c r0, xor_cancel, UInt8.zero_xor]
 rw [e, xor_mul, ← mul_assoc, mul_inv _ (xor_ne h), one_mul, mul_comm (inv (r ^^^ c)), ← mul_assoc, mul_inv _ (xor_ne h0), one_mul, xor_comm]

theorem cauchy : ∀ (S R : List UInt8) (x : UInt8 → UInt8), S.Nodup → R.Nodup → (∀ r ∈ R, r ∉ S) → S.length ≤ R.length →
  (∀ r ∈ R, sumL S (fun c => mul (x c) (inv (r ^^^ c))) = 0) → ∀ c ∈ S, x c = 0 := by
 intro S
 induction S with
 | nil => intro R x _ _ _ _ _ c hc; cases hc
 | cons c0 S ih =>
  intro R x hS hR hd hl hE
  match R with
  | [] => simp at hl
  | r0 :: R =>
   rw [List.nodup_cons] at hS hR
   have hr0c0 : r0 ≠ c0 := fun e => hd r0 (by simp) (by simp [e])
   have hr0S : ∀ c ∈ S, r0 ≠ c := fun c hc e => hd r0 (by simp) (by simp [e, hc])
   have hE0 := hE r0 (by simp)
   rw [sumL_cons] at hE0
   -- the smaller system
   have key : ∀ c ∈ S, mul (x c) (mul (c ^^^ c0) (inv (r0 ^^^ c))) = 0 := by
    refine ih R (fun c => mul (x c) (mul (c ^^^ c0) (inv (r0 ^^^ c)))) hS.2 hR.2 (fun r hr hrS => hd r (by simp [hr]) (by simp [hrS])) (by simp at hl; omega) (fun r hr => ?_)
    have hrc0 : r ≠ c0 := fun e => hd r (by simp [hr]) (by simp [e])
    have hrS : ∀ c ∈ S, r ≠ c := fun c hc e => hd r (by simp [hr]) (by simp [e, hc])
    have hrr0 : r ≠ r0 := fun e => hR.1 (by rw [← e]; exact hr)
    have hEr := hE r (by simp [hr])
    rw [sumL_cons] at hEr
    -- (r + c0) E_r + (r0 + c0) E_r0 = 0
    have h1 : mul (r ^^^ c0) (sumL S (fun c => mul (x c) (inv (r ^^^ c)))) = x c0 := by
     have e1 : sumL S (fun c => mul (x c) (inv (r ^^^ c))) = mul (x c0) (inv (r ^^^ c0)) := by
      have := congrArg (fun t => mul (x c0) (inv (r ^^^ c0)) ^^^ t) hEr
      simp only [← xor_assoc, xor_cancel, UInt8.zero_xor, UInt8.xor_zero] at this
      exact this
     rw [e1, ← mul_assoc, mul_comm (r ^^^ c0), mul_assoc, mul_inv _ (xor_ne hrc0), mul_one]
    have h2 : mul (r0 ^^^ c0) (sumL S (fun c => mul (x c) (inv (r0 ^^^ c)))) = x c0 := by
     have e1 : sumL S (fun c => mul (x c) (inv (r0 ^^^ c))) = mul (x c0) (inv (r0 ^^^ c0)) := by
      have := congrArg (fun t => mul (x c0) (inv (r0 ^^^ c0)) ^^^ t) hE0
      simp only [← xor_assoc, xor_cancel, UInt8.zero_xor, UInt8.xor_zero] at this
      exact this
     rw [e1, ← mul_assoc, mul_comm (r0 ^^^ c0), mul_assoc, mul_inv _ (xor_ne hr0c0), mul_one]
    have h3 : mul (r ^^^ r0) (sumL S (fun c => mul (mul (x c) (mul (c ^^^ c0) (inv (r0 ^^^ c)))) (inv (r ^^^ c)))) = 0 := by
     have e2 : sumL S (fun c => mul (r ^^^ r0) (mul (mul (x c) (mul (c ^^^ c0) (inv (r0 ^^^ c)))) (inv (r ^^^ c)))) = sumL S (fun c => mul (r ^^^ c0) (mul (x c) (inv (r ^^^ c))) ^^^ mul (r0 ^^^ c0) (mul (x c) (inv (r0 ^^^ c)))) := by
      refine sumL_congr fun c hc => ?_
      have f1 := frac r c c0 (hrS c hc)
      have f2 := frac r0 c c0 (hr0S c hc)
      have f3 := frac2 r r0 c (hrS c hc) (hr0S c hc)
      have g1 : mul (r ^^^ c0) (mul (x c) (inv (r ^^^ c))) = mul (x c) (mul (r ^^^ c0) (inv (r ^^^ c))) := by rw [← mul_assoc, mul_comm (r ^^^ c0), mul_assoc]
      have g2 : mul (r0 ^^^ c0) (mul (x c) (inv (r0 ^^^ c))) = mul (x c) (mul (r0 ^^^ c0) (inv (r0 ^^^ c))) := by rw [← mul_assoc, mul_comm (r0 ^^^ c0), mul_assoc]
      rw [g1, g2, f1, f2, ← mul_xor]
      have g3 : (1 : UInt8) ^^^ mul (c ^^^ c0) (inv (r ^^^ c)) ^^^ (1 ^^^ mul (c ^^^ c0) (inv (r0 ^^^ c))) = mul (c ^^^ c0) (inv (r ^^^ c) ^^^ inv (r0 ^^^ c)) := by
       rw [xor4, xor_cancel, UInt8.zero_xor, mul_xor]
      rw [g3, f3]
      generalize inv (r ^^^ c) = p
      generalize inv (r0 ^^^ c) = q
      generalize c ^^^ c0 = s
      generalize r ^^^ r0 = u
      generalize x c = y
      have a1 : mul u (mul (mul y (mul s q)) p) = mul y (mul u (mul (mul s q) p)) := by
       rw [mul_assoc y, ← mul_assoc u y, mul_comm u y, mul_assoc]
      have a2 : mul u (mul (mul s q) p) = mul s (mul u (mul p q)) := by
       rw [mul_assoc s, mul_comm q p, ← mul_assoc u s, mul_comm u s, mul_assoc]
      rw [a1, a2]
     rw [sumL_mul] at e2
     rw [e2, sumL_xor, sumL_mul, sumL_mul, h1, h2, xor_cancel]
    exact mul_eq_zero h3 (xor_ne hrr0)
   have hxS : ∀ c ∈ S, x c = 0 := fun c hc => by
    have hne : c ≠ c0 := fun e => hS.1 (by rw [← e]; exact hc)
    have h4 := key c hc
    have h5 : mul (c ^^^ c0) (inv (r0 ^^^ c)) ≠ 0 := fun e => inv_ne (xor_ne (hr0S c hc)) (mul_eq_zero e (xor_ne hne))
    rw [mul_comm] at h4
    exact mul_eq_zero h4 h5
   intro c hc
   rcases List.mem_cons.1 hc with rfl | hc
   ·
    have h6 : sumL S (fun c' => mul (x c') (inv (r0 ^^^ c'))) = 0 := by
     rw [sumL_congr (g := fun _ => 0) (fun c' hc' => by rw [hxS c' hc', zero_mul])]
     clear hE0 key hxS hE hd hl ih hS hr0S hc
     induction S with
     | nil => rfl
     | cons a S ih => rw [sumL_cons, ih]; simp
    rw [h6, UInt8.xor_zero, mul_comm] at hE0
    exact mul_eq_zero hE0 (inv_ne (xor_ne hr0c0))
   ·
    exact hxS c hc
end Go.Proofs.YtfcakjpljjnjnaaGreatDoor
/- Row reduction keeps the kernel; where the left part is injective every column has its pivot: plain. -/
namespace Go.Proofs.YtfcakjpljjnjnaaGreatDoor
open Gf

def dot (r : List UInt8) (v : Nat → UInt8) : Nat → UInt8
 | 0 => 0
 | k + 1 => dot r v k ^^^ mul (gB r k) (v k)
theorem dot_congr {r r' : List UInt8} {v v' : Nat → UInt8} : ∀ {n : Nat}, (∀ k, k < n → mul (gB r k) (v k) = mul (gB r' k) (v' k)) → dot r v n = dot r' v' n
 | 0, _ => rfl
 | n + 1, h => by rw [dot, dot, h n (by omega), dot_congr (fun k hk => h k (by omega))]
theorem dot_map (r : List UInt8) (a : UInt8) (v : Nat → UInt8) : ∀ n, n ≤ r.length → dot (r.map (mul a)) v n = mul a (dot r v n)
 | 0, _ => by simp [dot, mul_zero]
 | n + 1, h => by
  have e : gB (r.map (mul a)) n = mul a (gB r n) := by rw [gB_eq (by simp; omega), gB_eq (by omega)]; simp
  rw [dot, dot, dot_map r a v n (by omega), e, mul_xor, mul_assoc]
theorem gB_muladd {dst src : List UInt8} {c : UInt8} {i : Nat} (h : dst.length = src.length) (hi : i < src.length) : gB (muladd dst src c) i = mul c (gB src i) ^^^ gB dst i := by
 rw [gB_eq (by rw [muladd_length _ _ _ h]; exact hi), gB_eq hi, gB_eq (by omega)]
 simp [muladd]
theorem dot_muladd {dst src : List UInt8} (c : UInt8) (v : Nat → UInt8) (h : dst.length = src.length) : ∀ n, n ≤ src.length → dot (muladd dst src c) v n = mul c (dot src v n) ^^^ dot dst v n
 | 0, _ => by simp [dot, mul_zero]
 | n + 1, hn => by
  rw [dot, dot, dot, dot_muladd c v h n (by omega), gB_muladd h (by omega), xor_mul, mul_xor, mul_assoc, xor4]
theorem dot_tail (r : List UInt8) (v : Nat → UInt8) (n : Nat) : ∀ j, (∀ k, n ≤ k → v k = 0) → dot r v (n + j) = dot r v n
 | 0, _ => rfl
 | j + 1, h => by rw [← Nat.add_assoc, dot, dot_tail r v n j h, h (n + j) (by omega), mul_zero]; simp
theorem gB_append_left {a b : List UInt8} {k : Nat} (h : k < a.length) : gB (a ++ b) k = gB a k := by
 simp [gB, List.getD, List.getElem?_append_left h]
theorem gB_append_right {a b : List UInt8} {k : Nat} : gB (a ++ b) (a.length + k) = gB b k := by
 rw [gB, gB, List.getD_eq_getElem?_getD, List.getD_eq_getElem?_getD, List.getElem?_append_right (by omega), Nat.add_sub_cancel_left]
theorem dot_append {a b : List UInt8} {v : Nat → UInt8} : ∀ n, dot (a ++ b) v (a.length + n) = dot a v a.length ^^^ dot b (fun k => v (a.length + k)) n
 | 0 => by
  rw [Nat.add_zero, dot_congr (r' := a) (v' := v) (fun k hk => by rw [gB_append_left hk])]
  simp [dot]
 | n + 1 => by rw [← Nat.add_assoc, dot, dot, dot_append n, gB_append_right, xor_assoc]
/-- The first columns are those of the identity. -/
theorem dot_delta (r : List UInt8) (v : Nat → UInt8) (i : Nat) : ∀ n, (∀ c, c < n → gB r c = if c = i then 1 else 0) → dot r v n = if i < n then v i else 0
 | 0, _ => rfl
 | n + 1, h => by
  rw [dot, dot_delta r v i n (fun c hc => h c (by omega)), h n (by omega)]
  by_cases e : n = i
  ·
   subst e
   rw [if_pos rfl, if_neg (by omega), if_pos (by omega), one_mul]; simp
  ·
   rw [if_neg e, zero_mul]
   by_cases h2 : i < n
   ·
    rw [if_pos h2, if_pos (by omega)]; simp
   ·
    rw [if_neg h2, if_neg (by omega)]; simp

def Ker (m : List (List UInt8)) (W : Nat) (v : Nat → UInt8) : Prop := ∀ i, i < m.length → dot (gR m i) v W = 0

theorem ker_swp {m : List (List UInt8)} {W i j : Nat} {v : Nat → UInt8} (hi : i < m.length) (hj : j < m.length) : Ker (swp m i j) W v ↔ Ker m W v := by
 constructor
 ·
  intro h k hk
  by_cases e1 : k = i
  ·
   subst e1
   have := h j (by rw [swp_length]; exact hj)
   rwa [swp_get _ _ _ _ hi hj hj, if_pos rfl] at this
  ·
   by_cases e2 : k = j
   ·
    subst e2
    have := h i (by rw [swp_length]; exact hi)
    rw [swp_get _ _ _ _ hi hj hi, if_neg (fun e => e1 e.symm), if_pos rfl] at this
    exact this
   ·
    have := h k (by rw [swp_length]; exact hk)
    rwa [swp_get _ _ _ _ hi hj hk, if_neg e2, if_neg e1] at this
 ·
  intro h k hk
  rw [swp_length] at hk
  rw [swp_get _ _ _ _ hi hj hk]
  split
  ·
   exact h i hi
  ·
   split
   ·
    exact h j hj
   ·
    exact h k hk

theorem dot_prow {m : List (List UInt8)} {W top col : Nat} (hr : Rect m W) (ht : top < m.length) (v : Nat → UInt8) : dot (prow m top col) v W = mul (inv (gB (gR m top) col)) (dot (gR m top) v W) := by
 rw [prow, dot_map _ _ _ _ (by rw [hr top ht]; exact Nat.le_refl _)]

theorem ker_clr {m : List (List UInt8)} {W top col : Nat} {v : Nat → UInt8} (hr : Rect m W) (ht : top < m.length) (hp : gB (gR m top) col ≠ 0) : Ker (clr m top col m.length) W v ↔ Ker m W v := by
 have hpl : (prow m top col).length = W := by rw [prow_length, hr top ht]
 constructor
 ·
  intro h
  have h0 := h top (by rw [clr_length]; exact ht)
  rw [clr_get _ _ _ _ _ ht, clrow, if_pos rfl, dot_prow hr ht] at h0
  have ht0 : dot (gR m top) v W = 0 := mul_eq_zero h0 (inv_ne hp)
  intro k hk
  by_cases e : k = top
  ·
   rw [e]; exact ht0
  ·
   have h1 := h k (by rw [clr_length]; exact hk)
   rw [clr_get _ _ _ _ _ hk, clrow, if_neg e] at h1
   split at h1
   ·
    rw [dot_muladd _ _ (by rw [hpl, hr k hk]) _ (by rw [hpl]; exact Nat.le_refl _), dot_prow hr ht, ht0, mul_zero, mul_zero, UInt8.zero_xor] at h1
    exact h1
   ·
    exact h1
 ·
  intro h k hk
  rw [clr_length] at hk
  rw [clr_get _ _ _ _ _ hk, clrow]
  split
  ·
   rw [dot_prow hr ht, h top ht, mul_zero]
  ·
   split
   ·
    rw [dot_muladd _ _ (by rw [hpl, hr k hk]) _ (by rw [hpl]; exact Nat.le_refl _), dot_prow hr ht, h top ht, mul_zero, mul_zero, UInt8.zero_xor]
    exact h k hk
   ·
    exact h k hk

theorem redS_keeps {m : List (List UInt8)} {W np col : Nat} (hr : Rect m W) : Rect (redS m np col).1 W ∧ (redS m np col).1.length = m.length := by
 cases hp : pvF m np col with
 | none => rw [redS_none hp]; exact ⟨hr, rfl⟩
 | some f =>
  obtain ⟨h1, h2, h3⟩ := pvF_spec hp
  rw [redS_some hp]
  exact ⟨clr_rect _ _ _ _ _ (swp_rect _ _ _ _ hr (by omega) h2) (by rw [swp_length]; omega), by rw [clr_length, swp_length]⟩
theorem ker_redS {m : List (List UInt8)} {W np col : Nat} {v : Nat → UInt8} (hr : Rect m W) : Ker (redS m np col).1 W v ↔ Ker m W v := by
 cases hp : pvF m np col with
 | none => rw [redS_none hp]
 | some f =>
  obtain ⟨h1, h2, h3⟩ := pvF_spec hp
  rw [redS_some hp]
  show Ker (clr (swp m np f) np col m.length) W v ↔ _
  have hpv : gB (gR (swp m np f) np) col ≠ 0 := by
   rw [swp_get _ _ _ _ (by omega) h2 (by omega)]
   by_cases e : np = f
   ·
    rw [if_pos e, e]; exact h3
   ·
    rw [if_neg e, if_pos rfl]; exact h3
  have := ker_clr (v := v) (swp_rect _ _ _ _ hr (by omega) h2) (by rw [swp_length]; omega) hpv
  rw [swp_length] at this
  rw [this, ker_swp (by omega) h2]
theorem red_keeps {m : List (List UInt8)} {W : Nat} (hr : Rect m W) : ∀ k, Rect (red m k).1 W ∧ (red m k).1.length = m.length
 | 0 => ⟨hr, rfl⟩
 | k + 1 => by
  have ih := red_keeps hr k
  have := redS_keeps (np := (red m k).2) (col := k) ih.1
  exact ⟨this.1, by rw [red, this.2, ih.2]⟩
theorem ker_red {m : List (List UInt8)} {W : Nat} {v : Nat → UInt8} (hr : Rect m W) : ∀ k, Ker (red m k).1 W v ↔ Ker m W v
 | 0 => Iff.rfl
 | k + 1 => by rw [red, ker_redS (red_keeps hr k).1, ker_red hr k]

/-- The columns before k are those of the identity. -/
def Unit' (m : List (List UInt8)) (k : Nat) : Prop := ∀ i, i < m.length → ∀ c, c < k → gB (gR m i) c = if c = i then 1 else 0

theorem unit_step {m : List (List UInt8)} {W k : Nat} (hr : Rect m W) (hkW : k < W) (hU : Unit' m k) {f : Nat} (hp : pvF m k k = some f) : Unit' (redS m k k).1 (k + 1) := by
 obtain ⟨h1, h2, h3⟩ := pvF_spec hp
 have hk : k < m.length := by omega
 rw [redS_some hp]
 show Unit' (clr (swp m k f) k k m.length) (k + 1)
 have hs := swp_rect _ _ _ _ hr hk h2
 have hsl : (swp m k f).length = m.length := swp_length _ _ _
 have hU' : Unit' (swp m k f) k := by
  intro i hi c hc
  rw [hsl] at hi
  rw [swp_get _ _ _ _ hk h2 hi]
  split
  ·
   rename_i e
   rw [hU k hk c hc, if_neg (by omega), if_neg (by omega)]
  ·
   split
   ·
    rename_i e
    rw [hU f h2 c hc, if_neg (by omega), if_neg (by omega)]
   ·
    exact hU i hi c hc
 have hpv : gB (gR (swp m k f) k) k ≠ 0 := by
  rw [swp_get _ _ _ _ hk h2 hk]
  by_cases e : k = f
  ·
   rw [if_pos e]; rw [e]; rw [e] at h3; exact h3
  ·
   rw [if_neg e, if_pos rfl]; exact h3
 generalize swp m k f = s at hs hsl hU' hpv
 have hkl : (gR s k).length = W := hs k (by omega)
 have hpg : ∀ c, c < W → gB (prow s k k) c = mul (inv (gB (gR s k) k)) (gB (gR s k) c) := fun c hc => by
  rw [prow]
  generalize inv (gB (gR s k) k) = q
  rw [gB_eq (by simp; omega), gB_eq (by omega)]; simp
 have hpl : (prow s k k).length = W := by rw [prow_length, hkl]
 intro i hi c hc
 rw [clr_length, hsl] at hi
 rw [clr_get _ _ _ _ _ (by omega), clrow]
 have hcW : c < W := by omega
 by_cases e : i = k
 ·
  rw [if_pos e, hpg c hcW]
  by_cases ec : c = k
  ·
   rw [ec, e, if_pos rfl, mul_comm, mul_inv _ hpv]
  ·
   rw [hU' k (by omega) c (by omega), if_neg ec, mul_zero, e, if_neg ec]
 ·
  rw [if_neg e]
  by_cases ec : c = k
  ·
   rw [ec]
   rw [if_neg (show ¬ k = i from fun h => e h.symm)]
   by_cases hz : gB (gR s i) k = 0
   ·
    rw [if_neg (fun h => h.2 hz)]; exact hz
   ·
    rw [if_pos ⟨by omega, hz⟩, gB_muladd (by rw [hpl, hs i (by omega)]) (by rw [hpl]; exact hkW), hpg k hkW, mul_comm (inv _), mul_inv _ hpv, mul_one, xor_cancel]
  ·
   have hcs : gB (gR s k) c = 0 := by rw [hU' k (by omega) c (by omega), if_neg ec]
   split
   ·
    rw [gB_muladd (by rw [hpl, hs i (by omega)]) (by rw [hpl]; exact hcW), hpg c hcW, hcs, mul_zero, mul_zero, UInt8.zero_xor]
    exact hU' i (by omega) c (by omega)
   ·
    exact hU' i (by omega) c (by omega)

theorem pvF_none_spec {m : List (List UInt8)} {top col : Nat} (h : pvF m top col = none) : ∀ j, top ≤ j → j < m.length → gB (gR m j) col = 0 := by
 intro j h1 h2
 unfold pvF at h
 rw [List.find?_eq_none] at h
 have := h j (List.mem_range.2 h2)
 simp only [Bool.and_eq_true, decide_eq_true_eq, not_and, bne_iff_ne, ne_eq, Decidable.not_not] at this
 exact this h1

/-- Where the left part is injective, every column has its pivot. -/
theorem reg_gen {m : List (List UInt8)} {W d : Nat} (hr : Rect m W) (hl : m.length = d) (hd : d ≤ W) (hinj : ∀ v : Nat → UInt8, (∀ c, d ≤ c → v c = 0) → Ker m W v → ∀ c, c < d → v c = 0) :
  ∀ k, k ≤ d → (red m k).2 = k ∧ Unit' (red m k).1 k := by
 intro k
 induction k with
 | zero => intro _; exact ⟨rfl, fun _ _ c hc => absurd hc (by omega)⟩
 | succ k ih =>
  intro hk
  obtain ⟨h1, h2⟩ := ih (by omega)
  obtain ⟨hR, hL⟩ := red_keeps hr k
  rw [hl] at hL
  cases hp : pvF (red m k).1 k k with
  | some f =>
   refine ⟨?_, ?_⟩
   ·
    rw [red, h1, redS_some hp]
   ·
    rw [red, h1]; exact unit_step hR (by omega) h2 hp
  | none =>
   exfalso
   have hz := pvF_none_spec hp
   let v : Nat → UInt8 := fun c => if c < k then gB (gR (red m k).1 c) k else if c = k then 1 else 0
   have hv : ∀ c, k + 1 ≤ c → v c = 0 := fun c hc => by show (if c < k then _ else if c = k then (1 : UInt8) else 0) = 0; rw [if_neg (by omega), if_neg (by omega)]
   have hvk : v k = 1 := by show (if k < k then _ else if k = k then (1 : UInt8) else 0) = 1; rw [if_neg (by omega), if_pos rfl]
   have hK : Ker (red m k).1 W v := by
    intro i hi
    have e : W = (k + 1) + (W - (k + 1)) := by omega
    rw [e, dot_tail _ _ _ _ hv, dot, dot_delta _ _ i k (fun c hc => h2 i hi c hc), hvk, mul_one]
    by_cases hik : i < k
    ·
     rw [if_pos hik]
     show (if i < k then gB (gR (red m k).1 i) k else if i = k then (1 : UInt8) else 0) ^^^ _ = 0
     rw [if_pos hik, xor_cancel]
    ·
     rw [if_neg hik, hz i (by omega) hi]; simp
   have := hinj v (fun c hc => hv c (by omega)) ((ker_red hr k).1 hK) k (by omega)
   rw [hvk] at this
   exact absurd this (by decide)
end Go.Proofs.YtfcakjpljjnjnaaGreatDoor
/- Contract of kinkeepref04.Reduce: it computes 'red' over all columns. -/
namespace Go.Proofs.YtfcakjpljjnjnaaGreatDoor
open Go.RowKit Gf

attribute [local go_sem] Gf.xor_bits Gf.and_bits Gf.or_bits Gf.ne_zero_iff Gf.eq_zero_iff Gf.eq_one_iff Gf.beq_bytes Gf.bne_bytes Gf.bv_toNat

/-- The first k of a, the rest of b. -/
def blend (a b : List UInt8) (k : Nat) : List UInt8 := a.take k ++ b.drop k
theorem blend_zero (a b : List UInt8) : blend a b 0 = b := by simp [blend]
theorem blend_length {a b : List UInt8} (h : a.length = b.length) (k : Nat) : (blend a b k).length = b.length := by simp [blend]; omega
theorem blend_all {a b : List UInt8} (h : a.length = b.length) {k : Nat} (hk : b.length ≤ k) : blend a b k = a := by
 rw [blend, List.take_of_length_le (by omega), List.drop_eq_nil_of_le hk, List.append_nil]
theorem blend_get {a b : List UInt8} (h : a.length = b.length) {k : Nat} (hk : k < b.length) : gB (blend a b k) k = gB b k := by
 rw [gB_eq (by rw [blend_length h]; exact hk), gB_eq hk]
 simp only [blend]
 rw [List.getElem_append_right (by simp; omega)]
 simp [show min k a.length = k by omega]
theorem blend_set {a b : List UInt8} (h : a.length = b.length) {k : Nat} (hk : k < b.length) : (blend a b k).set k (gB a k) = blend a b (k + 1) := by
 apply List.ext_getElem (by rw [List.length_set, blend_length h, blend_length h])
 intro i h1 h2
 rw [List.length_set, blend_length h] at h1
 rw [List.getElem_set]
 by_cases e : k = i
 ·
  subst e
  rw [if_pos rfl, gB_eq (by omega)]
  simp only [blend]
  rw [List.getElem_append_left (by simp; omega)]
  simp
 ·
  rw [if_neg e]
  simp only [blend]
  by_cases hi : i < k
  ·
   rw [List.getElem_append_left (by simp; omega), List.getElem_append_left (by simp; omega)]; simp
  ·
   rw [List.getElem_append_right (by simp; omega), List.getElem_append_right (by simp; omega)]
   simp only [List.getElem_drop]
   congr 1
   simp
   omega
theorem muladd_zero {dst src : List UInt8} (h : dst.length = src.length) : muladd dst src 0 = dst := by
 apply List.ext_getElem (by rw [muladd_length _ _ _ h]; omega)
 intro i h1 h2
 simp [muladd, zero_mul]
theorem red_np {m : List (List UInt8)} {W : Nat} (hr : Rect m W) : ∀ k, (red m k).2 ≤ m.length
 | 0 => Nat.zero_le _
 | k + 1 => by
  have ih := red_np hr k
  have hk := (red_keeps hr k).2
  rw [red]
  cases hp : pvF (red m k).1 (red m k).2 k with
  | none => rw [redS_none hp]; exact ih
  | some f => rw [redS_some hp]; have := pvF_spec hp; show (red m k).2 + 1 ≤ _; omega
/-- Row i is cleared. -/
theorem clr_put {s : List (List UInt8)} {W top c i : Nat} (hs : Rect s W) (ht : top < s.length) (hi : i < s.length) (hit : i ≠ top) : (clr s top c i).set i (muladd (gR s i) (prow s top c) (gB (gR s i) c)) = clr s top c (i + 1) := by
 by_cases hg : gB (gR s i) c = 0
 ·
  rw [hg, muladd_zero (by rw [hs i hi, prow_length, hs top ht]), ← clr_skip s top c i (.inr hg)]
  have hgi : gR (clr s top c i) i = gR s i := by rw [clr_get _ _ _ _ _ hi, clrow, if_neg hit, if_neg (fun h => absurd h.1 (by omega))]
  rw [← hgi]
  apply List.ext_getElem (by simp)
  intro j h1 h2
  rw [List.getElem_set]
  by_cases e : i = j
  ·
   subst e; rw [if_pos rfl, gR_eq h2]
  ·
   rw [if_neg e]
 ·
  exact clr_set s top c i hit hg

/-- copy, where its run is known. -/
theorem wp_copyB {w : World} {o : Oper} {a : Act} {K : Act → World → Prop} {Q : Exit → Act → World → Prop} (d s : Operand) (t t' : TypeId)
  (ho : o.op = .call { callee := .builtin .copy, args := #[d, s], argTypes := #[t, t'] }) (v u : Value) (hd : a.eval d = v) (hs : a.eval s = u) {v' : Value} {w' : World}
  (hr : (Builtin.copy_ #[t, t'] o.type #[v, u]).run Tryz.prog w = .ok v' w') (h : K (a.put o.dst v') w') : o.wp Tryz.prog a w K Q := by
 unfold Oper.wp execOp
 simp only [ho, resolve, invoke, builtin, Sem.run_bind, Sem.run_pure, Result.andThen_ok, List.map_toArray, List.map_cons, List.map_nil, hd, hs, hr]
 exact h
set_option maxRecDepth 100000 in
theorem copy_row_run {w : World} {g W : Nat} {A : Option Addr} {c : Nat} {old l : List UInt8} (ty : TypeId) (hB : Blk w g 5 (row old)) (ho : old.length = W) (hl : BS w A W c l) (h0 : 0 < W) :
  ∃ w', (Builtin.copy_ #[39, 39] ty #[.slice (some ⟨g, 0, none⟩) W W, .slice A W c]).run Tryz.prog w = .ok (goInt W) w' ∧ Blk w' g 5 (row l) ∧ (∀ k t cs, k ≠ g → Blk w k t cs → Blk w' k t cs) ∧ ∀ (B0 : Nat) (w0 : World), Below B0 w0 w → B0 ≤ g → Below B0 w0 w' := by
 have hinfo : (Tryz.prog.info? 5).map (·.size) = some 1 := by
  obtain ⟨i, h1, _, h3, _⟩ := info_some infoU8
  rw [h1]; simp [h3]
 obtain ⟨ga, oa, rfl, _⟩ := hl.2.2.2 0 h0
 have hrun := run_copy_row (P := Tryz.prog) w 39 39 ty 5 g 0 W W ⟨ga, oa, none⟩ W c (row old) 5 (l.map B) Tryz.underlying39 hinfo hB (by simp [hl.1]) (fun j v hj => by
  obtain ⟨hj1, hj2⟩ := List.getElem?_eq_some_iff.1 hj
  have hjW : j < W := by rw [← hl.1]; simpa using hj1
  obtain ⟨g', o', e', hc⟩ := hl.2.2.2 j hjW
  obtain ⟨rfl, rfl⟩ : ga = g' ∧ oa = o' := by cases e'; exact ⟨rfl, rfl⟩
  have ea : (⟨ga, oa, none⟩ : Addr).add j = ⟨ga, oa + j, none⟩ := by
   unfold Addr.add; split
   ·
    rename_i hj0; subst hj0; simp
   ·
    rfl
  rw [ea, hc, ← hj2]
  show some (B (gB l j)) = _
  rw [gB_eq (by rw [hl.1]; exact hjW)]
  simp) (by rw [row_size]; simp [hl.1, ho]) (by simp [Value.oneCell'])
 have e : ((row old).toList.take 0 ++ l.map B ++ (row old).toList.drop (0 + (l.map B).length)).toArray = row l := by
  have : (row old).toList.drop (0 + (l.map B).length) = [] := List.drop_eq_nil_of_le (by rw [Array.length_toList, row_size]; simp [hl.1, ho])
  rw [this]; simp [row]
 rw [e, List.length_map, hl.1] at hrun
 exact ⟨_, hrun, setRow_heap _ _ _ _ _ _ hB, fun k t cs hk h => (setRow_other _ _ _ _ hk).trans h, fun B0 w0 hb hg => below_setRow hb hg _⟩
end Go.Proofs.YtfcakjpljjnjnaaGreatDoor
/- What Locate computes: plain functions. -/
namespace Go.Proofs.YtfcakjpljjnjnaaGreatDoor
open Go.RowKit Gf

end Go.Proofs.YtfcakjpljjnjnaaGreatDoor
