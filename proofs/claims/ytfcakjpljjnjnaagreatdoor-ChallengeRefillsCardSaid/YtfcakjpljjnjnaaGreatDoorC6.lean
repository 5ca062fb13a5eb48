/- Several texts in one: Slc, Wr, Mk, App, Bsl, Sha4. -/
import Derived.Test.YtfcakjpljjnjnaaGreatDoorC2
import Derived.Test.YtfcakjpljjnjnaaGreatDoorC5
import Derived.Test.YtfcakjpljjnjnaaGreatDoorChecked
import Derived.Test.YtfcakjpljjnjnaaGreatDoorC1
import Derived.WalkKit
import Derived.Maps.AppendAt
import Derived.RegionTactic
import Derived.OwnWalk
/- x[k:], x[:k] of byte slices and of arrays of bytes, as laws at the operation. Proved for any program. -/
namespace Go.Proofs.YtfcakjpljjnjnaaGreatDoor
open Go Go.RowKit Gf

/-- The address of x[k:]. -/
def cutA (A : Option Addr) (c k : Nat) : Option Addr := if c = k then A else A.map (·.add k)
/-- The bytes lie in no block of S. -/
def FarB (A : Option Addr) (n : Nat) (S : Nat → Prop) : Prop := ∀ g o, 0 < n → A = some ⟨g, o, none⟩ → ¬ S g
theorem BS.kpf {w w' : World} {A : Option Addr} {n c : Nat} {l : List UInt8} {S : Nat → Prop} (h : BS w A n c l) (hk : Kp S w w') (hf : FarB A n S) : BS w' A n c l :=
 ⟨h.1, h.2.1, h.2.2.1, fun k hk2 => by
  obtain ⟨g, o, e, hc⟩ := h.2.2.2 k hk2
  exact ⟨g, o, e, hk.cell hc (hf g o (by omega) e)⟩⟩
theorem FarB.cut {w : World} {A : Option Addr} {n c : Nat} {l : List UInt8} {S : Nat → Prop} (h : BS w A n c l) (hf : FarB A n S) {k : Nat} (hk : k ≤ n) : FarB (cutA A c k) (n - k) S := by
 intro g o hn e
 have h2 := h.2.1
 obtain ⟨g0, o0, rfl, _⟩ := h.2.2.2 0 (by omega)
 unfold cutA at e
 rw [if_neg (by omega), Option.map_some, addr_add] at e
 cases e
 exact hf _ _ (by omega) rfl
theorem FarB.pre {A : Option Addr} {n : Nat} {S : Nat → Prop} (hf : FarB A n S) {k : Nat} (hk : k ≤ n) : FarB A k S := fun g o hn e => hf g o (by omega) e
/-- What is old lies in no new block. -/
theorem BS.far_new {w : World} {A : Option Addr} {n c : Nat} {l : List UInt8} (h : BS w A n c l) {S : Nat → Prop} (hS : ∀ k, S k → w.heap.size ≤ k) : FarB A n S := fun g o hn e hs => by
 obtain ⟨g0, o0, e0, hc⟩ := h.2.2.2 0 hn
 rw [e] at e0
 cases e0
 have h1 := cell_lt hc
 have h2 := hS g hs
 simp at h1
 omega
theorem BS.cut {w : World} {A : Option Addr} {n c : Nat} {l : List UInt8} (h : BS w A n c l) {k : Nat} (hk : k ≤ n) : BS w (cutA A c k) (n - k) (c - k) (l.drop k) := by
 obtain ⟨h1, h2, h3, h4⟩ := h
 refine ⟨by simp [h1], by omega, by omega, fun j hj => ?_⟩
 obtain ⟨g, o, rfl, hc⟩ := h4 (k + j) (by omega)
 refine ⟨g, o + k, ?_, ?_⟩
 ·
  unfold cutA
  rw [if_neg (by omega), Option.map_some, addr_add]
 ·
  rw [Nat.add_assoc, hc]
  show some (B (gB l (k + j))) = some (B (gB (l.drop k) j))
  rw [gB, gB, List.getD_eq_getElem?_getD, List.getD_eq_getElem?_getD, List.getElem?_drop]
theorem BS.pre {w : World} {A : Option Addr} {n c : Nat} {l : List UInt8} (h : BS w A n c l) {k : Nat} (hk : k ≤ n) : BS w A k c (l.take k) := by
 obtain ⟨h1, h2, h3, h4⟩ := h
 refine ⟨by simp [h1]; omega, by omega, by omega, fun j hj => ?_⟩
 obtain ⟨g, o, rfl, hc⟩ := h4 j (by omega)
 refine ⟨g, o, rfl, ?_⟩
 rw [hc]
 show some (B (gB l j)) = some (B (gB (l.take k) j))
 rw [gB, gB, List.getD_eq_getElem?_getD, List.getD_eq_getElem?_getD, List.getElem?_take_of_lt hj]

section
variable {P : Program} (w : World) {ops : Array Oper} {rest : List Oper} {o : Oper} {a : Act} {Q : Exit → Act → World → Prop}

theorem one_size {te : TypeId} (hsz : (match P.info? te with | some i => i.size == 1 | none => false) = true) : (sizeOf te).run P w = .ok 1 w := by
 cases hi : P.info? te with
 | none => simp [hi] at hsz
 | some i => simp [hi] at hsz; simp [sizeOf, typeInfo, hi, hsz]

/-- x[k:] of a slice of one-cell elements. -/
theorem wpList_cut (hg : o.guard = none) (s lo : Operand) (ty te : TypeId) (hop : o.op = .slice ty s (some lo) none none) (hu : P.underlying ty = some (.slice te)) (hsz : (match P.info? te with | some i => i.size == 1 | none => false) = true)
  (A : Option Addr) (n c k : Nat) (z : Int) (hs : a.eval s = .slice A n c) (hlo : a.eval lo = .int .i64 z) (hz : z = (k : Int)) (hk : k ≤ n)
  (h : wpList P ops Q rest (a.put o.dst (.slice (cutA A c k) (n - k) (c - k))) w) : wpList P ops Q (o :: rest) a w :=
 wpList_plain hg fun K hK => by
  subst hz
  have h2 := one_size (P := P) w hsz
  unfold Oper.wp execOp
  simp only [hop, Option.map_some, Option.map_none, hs, hlo]
  simp [Instr.sliceAt, Instr.slice, run_underlying hu, Instr.sliceBounds, Instr.sliceBound, asIntOf, hk, h2, Result.andThen]
  exact hK _ _ h

/-- p[k:] of a pointer to an array of one-cell elements. -/
theorem wpList_cutarr (hg : o.guard = none) (s lo : Operand) (ty te : TypeId) (m : Nat) (hop : o.op = .slice ty s (some lo) none none) (hu : P.underlying ty = some (.array m te)) (hsz : (match P.info? te with | some i => i.size == 1 | none => false) = true)
  (g p k : Nat) (z : Int) (hs : a.eval s = .pointer (some ⟨g, p, none⟩)) (hlo : a.eval lo = .int .i64 z) (hz : z = (k : Int)) (hk : k < m)
  (h : wpList P ops Q rest (a.put o.dst (.slice (some ⟨g, p + k, none⟩) (m - k) (m - k))) w) : wpList P ops Q (o :: rest) a w :=
 wpList_plain hg fun K hK => by
  subst hz
  have h2 := one_size (P := P) w hsz
  unfold Oper.wp execOp
  simp only [hop, Option.map_some, Option.map_none, hs, hlo]
  simp [Instr.sliceAt, run_underlying hu, Instr.sureAddr, Instr.sliceBounds, Instr.sliceBound, asIntOf, Nat.le_of_lt hk, h2, Result.andThen, addr_add, show ¬ m = k by omega]
  exact hK _ _ h
end
end Go.Proofs.YtfcakjpljjnjnaaGreatDoor
/- Contract of (*sha256.State).Write. -/
namespace Go.Proofs.YtfcakjpljjnjnaaGreatDoor
open Go.RowKit Gf Sha

def lenV : Value → Nat
 | .slice _ n _ => n
 | _ => 0
theorem Tabs.size {w : World} (h : Tabs w) : 2 < w.heap.size := by
 have := cell_lt (h.con 0 _ rfl)
 simpa using this
/-- What was written into the sum in block g. -/
def WrPost (w : World) (g : Nat) (t : TypeId) (rest : List Value) (l : List UInt8) (e : Ending) (w' : World) : Prop := e = .returned (.tuple #[]) ∧ Hs w' g t rest l ∧ Kp (· = g) w w'
/-- In the midst: P is done, x1 is to come. -/
structure WrMid (w : World) (g : Nat) (t : TypeId) (rest : List Value) (T P : List UInt8) (A : Option Addr) (n c : Nat) (x : List UInt8) (w' : World) : Prop where
 all : P ++ x = T
 whole : P.length % 64 = 0
 src : BS w' A n c x
 far : FarB A n (· = g)
 st : ∃ buf : List UInt8, buf.length = 64 ∧ BL w' g t (stv (hs P) buf T.length rest)
 kp : Kp (· = g) w w'
theorem WrMid.next {r : List Value} {w : World} {g : Nat} {t : TypeId} {rest : List Value} {T P : List UInt8} {A : Option Addr} {n c : Nat} {x : List UInt8} {w1 w2 : World} (h : WrMid w g t rest T P A n c x w1) (hn : 64 ≤ n)
  (hb : BL w2 g t ((comp (hs P) (x.take 64)).cells ++ r)) (hr : ∃ buf : List UInt8, buf.length = 64 ∧ r = buf.map B ++ (.int .i64 (T.length : Int) :: rest)) (hk : Kp (· = g) w1 w2) : WrMid w g t rest T (P ++ x.take 64) (cutA A c 64) (n - 64) (c - 64) (x.drop 64) w2 := by
 have hl : (x.take 64).length = 64 := by simp [h.src.1]; omega
 obtain ⟨buf, h1, rfl⟩ := hr
 refine ⟨by rw [List.append_assoc, List.take_append_drop]; exact h.all, by rw [List.length_append, hl]; have := h.whole; omega, (h.src.kpf hk h.far).cut hn, FarB.cut h.src h.far hn, ⟨buf, h1, ?_⟩, h.kp.trans hk⟩
 rw [hs_block _ _ h.whole hl]
 exact hb
theorem WrMid.last {w : World} {g : Nat} {t : TypeId} {rest : List Value} {T P : List UInt8} {A : Option Addr} {n c : Nat} {x : List UInt8} {w1 w2 : World} (h : WrMid w g t rest T P A n c x w1) (hn : n < 64) {buf : List UInt8} (hb1 : buf.length = 64)
  (hb : BL w2 g t (splice (stv (hs P) buf T.length rest) 8 ((x.take (min n 64)).map B))) (hk : Kp (· = g) w1 w2) : WrPost w g t rest T (.returned (.tuple #[])) w2 := by
 have hl := h.src.1
 have ht : T.length = P.length + n := by rw [← h.all, List.length_append, hl]
 have hw := h.whole
 rw [Nat.min_eq_left (by omega), List.take_of_length_le (by omega)] at hb
 have e := stv_splice (hs P) buf T.length 0 x rest hb1 (by omega)
 rw [Nat.add_zero] at e
 rw [e] at hb
 have h2 : T.length / 64 = P.length / 64 := by omega
 refine ⟨rfl, ⟨bufw buf 0 x, bufw_length _ _ _ hb1 (by omega), ?_, ?_⟩, h.kp.trans hk⟩
 ·
  rw [← h.all] at h2 ⊢
  rw [hs_append P x h2, h.all]; exact hb
 ·
  have h3 := bufw_take buf 0 x hb1 (by omega)
  rw [Nat.zero_add, List.take_zero, List.nil_append] at h3
  rw [show T.length % 64 = x.length by omega, h3]
  rw [← h.all] at h2 ⊢
  rw [tl64_append P x h2, tl64_zero P hw, List.nil_append]

set_option maxRecDepth 100000 in
set_option maxHeartbeats 8000000 in
theorem write_any (g n c : Nat) (A : Option Addr) (t : TypeId) (l x : List UInt8) (rest : List Value) (w : World) (hs0 : Hs w g t rest l) (h : BS w A n c x) (hT : Tabs w) (hg : 2 < g) (hA : FarB A n (· = g)) (hN : l.length + n ≤ 1152921504606846976) :
  Calls Tryz.prog 102 #[.pointer (some ⟨g, 0, none⟩), .slice A n c] w (WrPost w g t rest (l ++ x)) := by
 have HX := Lib.hid h
 have HT := Lib.hid hT
 have HA := Lib.hid hA
 have hn := h.len_le
 obtain ⟨buf, hb1, hb2, hb3⟩ := hs0
 have HB1 := Lib.hid hb1
 have HB2 := Lib.hid hb2
 have HB3 := Lib.hid hb3
 have q1 := hb2.get (stv_len _ _ _ _ hb1)
 have q2 := hb2.frozen 72
 obtain ⟨m, hm⟩ : ∃ m, m = l.length := ⟨_, rfl⟩
 have HW1 : Hid (BL (w.setCell ⟨g, 72, none⟩ (.int .i64 ((m : Int) + (n : Int)))) g t (stv (hs l) buf (l ++ x).length rest)) := Lib.hid (by
  have := hb2.set_ 72 (.int .i64 ((l.length + n : Nat) : Int))
  rw [stv_setlen _ _ _ _ _ hb1] at this
  rw [List.length_append, h.1, hm]
  exact this)
 have HK1 : Hid (Kp (· = g) w (w.setCell ⟨g, 72, none⟩ (.int .i64 ((m : Int) + (n : Int))))) := Lib.hid ((Kp.refl (· = g) _).set (.inl rfl) _)
 clear h hT hb1 hb2 hb3 hA
 rw [← hm] at q1 hN
 have HM := Lib.hid hm
 clear hm
 by_cases hu : 0 < m % 64
 ·
  have hu1 : 0 < (m : Int) % 64 := by omega
  obtain ⟨u, hu2⟩ : ∃ u, u = m % 64 := ⟨_, rfl⟩
  have HUZ : Hid ((m : Int) % 64 = (u : Int)) := Lib.hid (by omega)
  have HUL : Hid (u < 64) := Lib.hid (by omega)
  have HU := Lib.hid hu2
  have HL1 : Hid (8 + u + (64 - u) ≤ (stv (hs l) buf (l ++ x).length rest).length) := Lib.hid (by rw [stv_length _ _ _ _ HB1.out]; omega)
  have HXK := Lib.hid (HX.out.kpf HK1.out HA.out)
  by_cases hnu : n < 64 - u
  ·
   have HMIN : Hid (min n (64 - u) = n) := Lib.hid (by omega)
   have hA1 : (m : Int) % 64 + (n : Int) < 64 := by omega
   have HEND : Hid (∀ w2, BL w2 g t (splice (stv (hs l) buf (l ++ x).length rest) (8 + u) ((x.take n).map B)) → Kp (· = g) (w.setCell ⟨g, 72, none⟩ (.int .i64 ((m : Int) + (n : Int)))) w2 → WrPost w g t rest (l ++ x) (.returned (.tuple #[])) w2) := Lib.hid (fun w2 b1 b2 => by
    have hxl := HX.out.1
    have hml := HM.out
    rw [List.take_of_length_le (by omega), stv_splice _ _ _ _ _ _ HB1.out (by omega)] at b1
    have h2 : (l ++ x).length / 64 = l.length / 64 := by rw [List.length_append]; omega
    refine ⟨rfl, ⟨bufw buf u x, bufw_length _ _ _ HB1.out (by omega), by rw [hs_append l x h2]; exact b1, ?_⟩, HK1.out.trans b2⟩
    rw [tl64_append l x h2, show (l ++ x).length % 64 = u + x.length by rw [List.length_append]; omega, bufw_take _ _ _ HB1.out (by omega)]
    have h3 := HB3.out
    rw [← hml, ← hu2] at h3
    rw [h3])
   clear hu2
   go_enter Tryz.func102, Tryz.ntmps102
   go_wp2_with (first
    | ((with_reducible show OpW 26); refine wpList_cutarr _ rfl (.tmp 24) (.tmp 25) 150 5 64 rfl Tryz.underlying150 (by kernel_rfl) g 8 u _ rfl rfl HUZ.out HUL.out ?_)
    | ((with_reducible show OpW 28); refine wpList_copyB _ rfl (.tmp 26) (.tmp 27) 39 5 rfl Tryz.underlying39 (by kernel_rfl) g (8 + u) (64 - u) (64 - u) t _ rfl HW1.out A n c x rfl HXK.out HL1.out ?_; intro w2 b1 b2 b3; rw [HMIN.out] at b1; rw [HMIN.out])
    | ((with_reducible show OpW 31); refine wpList_cut _ rfl (.tmp 29) _ 39 5 rfl Tryz.underlying39 (by kernel_rfl) A n c n _ rfl rfl rfl (Nat.le_refl _) ?_))
   go_end0
   exact HEND.out w2 b1 b2
  ·
   obtain ⟨kk, hkk⟩ : ∃ kk, kk = 64 - u := ⟨_, rfl⟩
   have HMIN : Hid (min n (64 - u) = kk) := Lib.hid (by omega)
   have hB1 : 64 ≤ (m : Int) % 64 + (kk : Int) := by omega
   have hkn : kk ≤ n := by omega
   have HKK := Lib.hid hkk
   have HB : Hid (∀ w2, BL w2 g t (splice (stv (hs l) buf (l ++ x).length rest) (8 + u) ((x.take kk).map B)) → BL w2 g t (stv (hs l) (tl64 l ++ x.take kk) (l ++ x).length rest) ∧ (tl64 l ++ x.take kk).length = 64) := Lib.hid (fun w2 b1 => by
    have hxl := HX.out.1
    have hml := HM.out
    have hk2 : (x.take kk).length = kk := by simp; omega
    have h3 := HB3.out
    rw [← hml, ← hu2] at h3
    rw [stv_splice _ _ _ _ _ _ HB1.out (by omega), bufw_full _ _ _ HB1.out (by omega), h3] at b1
    refine ⟨b1, ?_⟩
    rw [List.length_append, tl64_length, ← hml, ← hu2, hk2]; omega)
   have HN3 : Hid (∀ w2 w3, Kp (· = g) (w.setCell ⟨g, 72, none⟩ (.int .i64 ((m : Int) + (n : Int)))) w2 → BL w3 g t ((comp (hs l) (tl64 l ++ x.take kk)).cells ++ ((tl64 l ++ x.take kk).map B ++ (.int .i64 ((l ++ x).length : Int) :: rest))) → Kp (· = g) w2 w3 → WrMid w g t rest (l ++ x) (l ++ x.take kk) (cutA A c kk) (n - kk) (c - kk) (x.drop kk) w3) := Lib.hid (fun w2 w3 k2 b3 k3 => by
    have hxl := HX.out.1
    have hml := HM.out
    have hk2 : (x.take kk).length = kk := by simp; omega
    have k9 := HK1.out.trans (k2.trans k3)
    refine ⟨by rw [List.append_assoc, List.take_append_drop], by rw [List.length_append, hk2]; omega, (HX.out.kpf k9 HA.out).cut hkn, FarB.cut HX.out HA.out hkn, ⟨tl64 l ++ x.take kk, ?_, ?_⟩, k9⟩
    ·
     rw [List.length_append, tl64_length, ← hml, ← hu2, hk2]; omega
    ·
     rw [hs_fill l _ (by omega)]
     exact b3)
   clear hu2 hkk
   go_enter Tryz.func102, Tryz.ntmps102
   go_wp2_with (first
    | ((with_reducible show OpW 26); refine wpList_cutarr _ rfl (.tmp 24) (.tmp 25) 150 5 64 rfl Tryz.underlying150 (by kernel_rfl) g 8 u _ rfl rfl HUZ.out HUL.out ?_)
    | ((with_reducible show OpW 28); refine wpList_copyB _ rfl (.tmp 26) (.tmp 27) 39 5 rfl Tryz.underlying39 (by kernel_rfl) g (8 + u) (64 - u) (64 - u) t _ rfl HW1.out A n c x rfl HXK.out HL1.out ?_; intro w2 b1 b2 b3; rw [HMIN.out] at b1; rw [HMIN.out]; obtain ⟨b4, b5⟩ := HB.out w2 b1; have HB4 := Lib.hid b4; have HB5 := Lib.hid b5; have HB2k := Lib.hid b2; clear b1 b2 b3 b4 b5)
    | ((with_reducible show OpW 31); refine wpList_cut _ rfl (.tmp 29) _ 39 5 rfl Tryz.underlying39 (by kernel_rfl) A n c kk _ rfl rfl rfl hkn ?_)
    | (go_at_call 135; refine (process_any g 64 (some ⟨g, 8, none⟩) t (hs l) (tl64 l ++ x.take kk) _ w2 (BL.buf HB4.out HB5.out) HB4.out (HT.out.kp (HK1.out.trans HB2k.out) (by rintro k rfl; exact hg))).mono ?_; rintro e w3 ⟨rfl, p1, p2⟩; have HM1 := Lib.hid (HN3.out w2 w3 HB2k.out p1 p2); clear p1 p2))
   have hn1 : n - kk ≤ 140737488355328 := by omega
   go_loopw [1] (fun v wr => ∃ (P x1 : List UInt8) (A1 : Option Addr) (n1 c1 : Nat), v = .slice A1 n1 c1 ∧ n1 ≤ 140737488355328 ∧ Hid (WrMid w g t rest (l ++ x) P A1 n1 c1 x1 wr)) (fun v _ => lenV v)
   case atStart => exact ⟨_, _, _, _, _, rfl, hn1, HM1⟩
   case round =>
    obtain ⟨P, x1, A1, n1, c1, rfl, hn1, hmid⟩ := hrel
    obtain ⟨bf, f1, f2⟩ := hmid.out.st
    have hsz := hmid.out.kp.size
    have hTr := hmid.out.kp
    by_cases h64 : 64 ≤ n1
    ·
     have hcc : 64 ≤ c1 := by have := hmid.out.src.2.1; omega
     have HP : Hid (∀ (e : Ending) (w2 : World), (e = .returned (.tuple #[]) ∧ BL w2 g t ((comp (hs P) (x1.take 64)).cells ++ (bf.map B ++ (.int .i64 ((l ++ x).length : Int) :: rest))) ∧ Kp (· = g) wr w2) → e = .returned (.tuple #[]) ∧ Hid (WrMid w g t rest (l ++ x) (P ++ x1.take 64) (cutA A1 c1 64) (n1 - 64) (c1 - 64) (x1.drop 64) w2)) := Lib.hid (fun e w2 hp => ⟨hp.1, Lib.hid (hmid.out.next h64 hp.2.1 ⟨bf, f1, rfl⟩ hp.2.2)⟩)
     have HF2 := Lib.hid f2
     have HTr : Hid (Tabs wr) := Lib.hid (HT.out.kp hTr (by rintro k rfl; exact hg))
     clear f1 f2 hTr
     go_wp2_with (first
      | (go_at_call 135; refine (process_any g c1 A1 t (hs P) (x1.take 64) _ wr (hmid.out.src.pre h64) HF2.out HTr.out).mono ?_; intro e w2 hp; obtain ⟨rfl, HM2⟩ := HP.out e w2 hp; clear hp)
      | ((with_reducible show OpW 50); refine wpList_cut _ rfl (.tmp 49) _ 39 5 rfl Tryz.underlying39 (by kernel_rfl) A1 n1 c1 64 64 rfl rfl rfl h64 ?_))
     go_roundw
     case rel => exact ⟨_, _, _, _, _, rfl, by omega, HM2⟩
     case measure => simp [lenV]; omega
    ·
     have HF2 := Lib.hid f2
     have HS := Lib.hid hmid.out.src
     have HLA : Hid (∀ w2, BL w2 g t (splice (stv (hs P) bf (l ++ x).length rest) 8 ((x1.take (min n1 64)).map B)) → Kp (· = g) wr w2 → WrPost w g t rest (l ++ x) (.returned (.tuple #[])) w2) := Lib.hid (fun w2 b1 b2 => hmid.out.last (by omega) f1 b1 b2)
     have HLn : Hid (8 + 64 ≤ (stv (hs P) bf (l ++ x).length rest).length) := Lib.hid (by rw [stv_length _ _ _ _ f1]; omega)
     clear f1 f2 hTr
     go_wp2_with ((with_reducible show OpW 56); refine wpList_copyB _ rfl (.tmp 54) (.tmp 55) 39 5 rfl Tryz.underlying39 (by kernel_rfl) g 8 64 64 t _ rfl HF2.out A1 n1 c1 x1 rfl HS.out HLn.out ?_; intro w2 b1 b2 b3)
     go_end0
     exact HLA.out w2 b1 b2
 ·
  have hu1 : (m : Int) % 64 ≤ 0 := by omega
  have HM1 : Hid (WrMid w g t rest (l ++ x) l A n c x (w.setCell ⟨g, 72, none⟩ (.int .i64 ((m : Int) + (n : Int))))) := Lib.hid ⟨rfl, by rw [← HM.out]; omega, HX.out.kpf HK1.out HA.out, HA.out, ⟨buf, HB1.out, HW1.out⟩, HK1.out⟩
  have hn1 := hn
  go_enter Tryz.func102, Tryz.ntmps102
  go_wp2_with fail
  go_loopw [1] (fun v wr => ∃ (P x1 : List UInt8) (A1 : Option Addr) (n1 c1 : Nat), v = .slice A1 n1 c1 ∧ n1 ≤ 140737488355328 ∧ Hid (WrMid w g t rest (l ++ x) P A1 n1 c1 x1 wr)) (fun v _ => lenV v)
  case atStart => exact ⟨_, _, _, _, _, rfl, hn1, HM1⟩
  case round =>
   obtain ⟨P, x1, A1, n1, c1, rfl, hn1, hmid⟩ := hrel
   obtain ⟨bf, f1, f2⟩ := hmid.out.st
   have hsz := hmid.out.kp.size
   have hTr := hmid.out.kp
   by_cases h64 : 64 ≤ n1
   ·
    have hcc : 64 ≤ c1 := by have := hmid.out.src.2.1; omega
    have HP : Hid (∀ (e : Ending) (w2 : World), (e = .returned (.tuple #[]) ∧ BL w2 g t ((comp (hs P) (x1.take 64)).cells ++ (bf.map B ++ (.int .i64 ((l ++ x).length : Int) :: rest))) ∧ Kp (· = g) wr w2) → e = .returned (.tuple #[]) ∧ Hid (WrMid w g t rest (l ++ x) (P ++ x1.take 64) (cutA A1 c1 64) (n1 - 64) (c1 - 64) (x1.drop 64) w2)) := Lib.hid (fun e w2 hp => ⟨hp.1, Lib.hid (hmid.out.next h64 hp.2.1 ⟨bf, f1, rfl⟩ hp.2.2)⟩)
    have HF2 := Lib.hid f2
    have HTr : Hid (Tabs wr) := Lib.hid (HT.out.kp hTr (by rintro k rfl; exact hg))
    clear f1 f2 hTr
    go_wp2_with (first
     | (go_at_call 135; refine (process_any g c1 A1 t (hs P) (x1.take 64) _ wr (hmid.out.src.pre h64) HF2.out HTr.out).mono ?_; intro e w2 hp; obtain ⟨rfl, HM2⟩ := HP.out e w2 hp; clear hp)
     | ((with_reducible show OpW 50); refine wpList_cut _ rfl (.tmp 49) _ 39 5 rfl Tryz.underlying39 (by kernel_rfl) A1 n1 c1 64 64 rfl rfl rfl h64 ?_))
    go_roundw
    case rel => exact ⟨_, _, _, _, _, rfl, by omega, HM2⟩
    case measure => simp [lenV]; omega
   ·
    have HF2 := Lib.hid f2
    have HS := Lib.hid hmid.out.src
    have HLA : Hid (∀ w2, BL w2 g t (splice (stv (hs P) bf (l ++ x).length rest) 8 ((x1.take (min n1 64)).map B)) → Kp (· = g) wr w2 → WrPost w g t rest (l ++ x) (.returned (.tuple #[])) w2) := Lib.hid (fun w2 b1 b2 => hmid.out.last (by omega) f1 b1 b2)
    have HLn : Hid (8 + 64 ≤ (stv (hs P) bf (l ++ x).length rest).length) := Lib.hid (by rw [stv_length _ _ _ _ f1]; omega)
    clear f1 f2 hTr
    go_wp2_with ((with_reducible show OpW 56); refine wpList_copyB _ rfl (.tmp 54) (.tmp 55) 39 5 rfl Tryz.underlying39 (by kernel_rfl) g 8 64 64 t _ rfl HF2.out A1 n1 c1 x1 rfl HS.out HLn.out ?_; intro w2 b1 b2 b3)
    go_end0
    exact HLA.out w2 b1 b2
end Go.Proofs.YtfcakjpljjnjnaaGreatDoor
/- Closed facts about the program's tables, and 'make' of the element types that the chapter uses. -/
namespace Go.Proofs.YtfcakjpljjnjnaaGreatDoor
open Go Go.RowKit Gf

theorem infoU8 : (Tryz.prog.info? 5).map (fun i => (i.zero, i.size, i.bytes)) = some (some (.int .u8 0), 1, 1) := by kernel_rfl
theorem infoInt : (Tryz.prog.info? 3).map (fun i => (i.zero, i.size, i.bytes)) = some (some (.int .i64 0), 1, 8) := by kernel_rfl

theorem infoStr : (Tryz.prog.info? 9).map (fun i => (i.zero, i.size, i.bytes)) = some (some (.string ByteArray.empty), 1, 16) := by kernel_rfl

theorem made_one (z : Value) (n : Nat) : madeCells #[z] n = (List.replicate n z).toArray := by
 rw [← toList_madeCells_one]

theorem make_bytes (n : Nat) (h : n ≤ 140737488355328) (w : World) :
  (Instr.makeSlice 39 (.int .i64 (n : Int)) (.int .i64 (n : Int))).run Tryz.prog w = .ok (.slice (some ⟨w.heap.size, 0, none⟩) n n) (w.alloc (.cells (row (zeros n)) 5)) := by
 obtain ⟨i, hi, hz, hs, hb⟩ := info_parts infoU8
 have hr := run_make (P := Tryz.prog) w 39 5 i _ Tryz.underlying39 hi hz .i64 .i64 n n (by omega) (by omega) (by rw [hb]; omega) (by omega)
 rw [hr, hs]
 simp only [Int.toNat_natCast, Value.cells, Nat.mul_one]
 rw [made_one]
 simp [row, zeros]; rfl

end Go.Proofs.YtfcakjpljjnjnaaGreatDoor
/- append onto a slice of the call's own, in the words of Mem: the source may be nil, empty or not. -/
namespace Go.Proofs.YtfcakjpljjnjnaaGreatDoor
open Go Go.RowKit Gf

section
variable {P : Program} (w : World)

theorem run_app_nil (base : Nat) (t ty e : TypeId) (i : TypeInfo) (ht : P.underlying t = some (.slice e)) (hi : P.info? e = some i)
  (v : Value) (n : Nat) (xs : List Value) (hown : w.ownsRow base e 1 v n xs) (c : Nat) : (Builtin.append_ #[t, t] ty #[v, .slice none 0 c]).run P w = .ok v w := by
 rcases hown.2 with ⟨rfl, rfl⟩ | ⟨g, cap, cur, rfl, _, _, hnc, _⟩
 ·
  simp [Builtin.append_, run_underlying ht, sizeOf, typeInfo, hi, Builtin.lenOf, Builtin.firstCells]
 ·
  simp [Builtin.append_, run_underlying ht, sizeOf, typeInfo, hi, Builtin.lenOf, Builtin.firstCells, hnc, storeCells]

theorem run_app (base : Nat) (t ty e : TypeId) (i : TypeInfo) (z : Value) (bytes : Nat) (ht : P.underlying t = some (.slice e)) (hi : P.info? e = some i) (hz : i.zero = some z)
  (hsize : i.size = 1) (hby : i.bytes = bytes) (hzs : z.cells.size = 1)
  (v : Value) (n : Nat) (xs : List Value) (hown : w.ownsRow base e 1 v n xs)
  (A : Option Addr) (m c : Nat) (news : List Value) (hl : news.length = m) (hr : Cells w A m (fun k => news.getD k undef)) (h1 : ∀ u ∈ news, u.oneCell' = true)
  (hbytes : (n + m) * bytes ≤ 140737488355328) (h63 : n + m ≤ 140737488355328) (hbase : base ≤ w.heap.size) :
  ∃ v' w', (Builtin.append_ #[t, t] ty #[v, .slice A m c]).run P w = .ok v' w' ∧ w'.ownsRow base e 1 v' (n + m) (xs ++ news) ∧ w.grownBy w' v.ownBlock ∧
   (v'.ownBlock = v.ownBlock ∨ v'.ownBlock = some w.heap.size) := by
 have hmx : n + m ≤ maxLen := by simp only [maxLen]; omega
 rcases Nat.eq_zero_or_pos m with h0 | h0
 ·
  subst h0
  have hn : news = [] := List.eq_nil_of_length_eq_zero hl
  subst hn
  rcases A with _ | ad
  ·
   exact ⟨v, w, run_app_nil w base t ty e i ht hi v n xs hown c, by simpa using hown, World.grownBy.refl w _, .inl rfl⟩
  ·
   obtain ⟨v', w', hrun, h2, h3, _, h5⟩ := run_append_own_at (P := P) w base t ty e i z 1 bytes ht hi hz hsize hby hzs (by omega) v n xs hown ad 0 c [] (by simp) (fun j u hu => by simp at hu) h1 hmx hbytes hbase
   exact ⟨v', w', hrun, h2, h3, h5⟩
 ·
  obtain ⟨g, o, rfl, _⟩ := hr 0 h0
  have hcells : ∀ j u, news[j]? = some u → w.cell? ((⟨g, o, none⟩ : Addr).add j) = some u := by
   intro j u hu
   have hj : j < m := by rw [← hl]; exact (List.getElem?_eq_some_iff.1 hu).1
   obtain ⟨g', o', e', hc⟩ := hr j hj
   injection e' with e'
   injection e' with e1 e2
   subst e1 e2
   have ea : (⟨g, o, none⟩ : Addr).add j = ⟨g, o + j, none⟩ := by
    unfold Addr.add; split
    ·
     rename_i hj0; subst hj0; simp
    ·
     rfl
   rw [ea, hc]
   simp [List.getD, hu]
  obtain ⟨v', w', hrun, h2, h3, _, h5⟩ := run_append_own_at (P := P) w base t ty e i z 1 bytes ht hi hz hsize hby hzs (by omega) v n xs hown ⟨g, o, none⟩ m c news (by omega) hcells h1 hmx hbytes hbase
  exact ⟨v', w', hrun, h2, h3, h5⟩

/-- What an append leaves. -/
def AppPost (base : Nat) (e : TypeId) (v : Value) (n m : Nat) (xs : List Value) (v' : Value) (w w' : World) : Prop :=
 w'.ownsRow base e 1 v' (n + m) xs ∧ w.grownBy w' v.ownBlock ∧ (v'.ownBlock = v.ownBlock ∨ v'.ownBlock = some w.heap.size)

theorem wp_app {o : Oper} {a : Act} {K : Act → World → Prop} {Q : Exit → Act → World → Prop} (s x : Operand) (t : TypeId)
  (ho : o.op = .call { callee := .builtin .append, args := #[s, x], argTypes := #[t, t] })
  (base : Nat) (e : TypeId) (i : TypeInfo) (z : Value) (bytes : Nat) (ht : P.underlying t = some (.slice e)) (hi : P.info? e = some i) (hz : i.zero = some z)
  (hsize : i.size = 1) (hby : i.bytes = bytes) (hzs : z.cells.size = 1)
  (v : Value) (n : Nat) (xs : List Value) (hs : a.eval s = v) (hown : w.ownsRow base e 1 v n xs)
  (A : Option Addr) (m c : Nat) (news : List Value) (hx : a.eval x = .slice A m c) (hl : news.length = m) (hr : Cells w A m (fun k => news.getD k undef)) (h1 : ∀ u ∈ news, u.oneCell' = true)
  (hbytes : (n + m) * bytes ≤ 140737488355328) (h63 : n + m ≤ 140737488355328) (hbase : base ≤ w.heap.size)
  (h : ∀ v' w', AppPost base e v n m (xs ++ news) v' w w' → K (a.put o.dst v') w') : o.wp P a w K Q := by
 obtain ⟨v', w', hrun, h2, h3, h4⟩ := run_app (P := P) w base t o.type e i z bytes ht hi hz hsize hby hzs v n xs hown A m c news hl hr h1 hbytes h63 hbase
 unfold Oper.wp execOp
 simp only [ho, resolve, invoke, builtin, Sem.run_bind, Sem.run_pure, Result.andThen_ok, List.map_toArray, List.map_cons, List.map_nil, hs, hx, hrun]
 exact h v' w' ⟨h2, h3, h4⟩
end

theorem wpList_app {P : Program} (w : World) {ops : Array Oper} {rest : List Oper} {o : Oper} {a : Act} {Q : Exit → Act → World → Prop} (hgd : o.guard = none) (s x : Operand) (t : TypeId)
  (ho : o.op = .call { callee := .builtin .append, args := #[s, x], argTypes := #[t, t] })
  (base : Nat) (e : TypeId) (z : Value) (bytes : Nat) (ht : P.underlying t = some (.slice e)) (hinfo : (P.info? e).map (fun i => (i.zero, i.size, i.bytes)) = some (some z, 1, bytes)) (hzs : z.cells.size = 1)
  (v : Value) (n : Nat) (xs : List Value) (hs : a.eval s = v) (hown : w.ownsRow base e 1 v n xs)
  (A : Option Addr) (m c : Nat) (news : List Value) (hx : a.eval x = .slice A m c) (hl : news.length = m) (hr : Cells w A m (fun k => news.getD k undef)) (h1 : ∀ u ∈ news, u.oneCell' = true)
  (hbytes : (n + m) * bytes ≤ 140737488355328) (h63 : n + m ≤ 140737488355328) (hbase : base ≤ w.heap.size)
  (h : ∀ v' w', AppPost base e v n m (xs ++ news) v' w w' → wpList P ops Q rest (a.put o.dst v') w') : wpList P ops Q (o :: rest) a w := by
 obtain ⟨i, hi, hz, hsz, hby⟩ := info_parts hinfo
 exact wpList_plain hgd fun _ hK => wp_app w s x t ho base e i z bytes ht hi hz hsz hby hzs v n xs hs hown A m c news hx hl hr h1 hbytes h63 hbase fun v' w' hp => hK _ _ (h v' w' hp)

theorem info_some {P : Program} {e : TypeId} {z : Value} {size bytes : Nat} (h : (P.info? e).map (fun i => (i.zero, i.size, i.bytes)) = some (some z, size, bytes)) : ∃ i, P.info? e = some i ∧ i.zero = some z ∧ i.size = size ∧ i.bytes = bytes := info_parts h

theorem cells_of_BS {w : World} {A : Option Addr} {m c : Nat} {l : List UInt8} (h : BS w A m c l) : Cells w A m (fun k => (l.map B).getD k undef) := fun k hk => by
 obtain ⟨g, o, e, hc⟩ := h.2.2.2 k hk
 have hkl : k < l.length := by rw [h.1]; exact hk
 refine ⟨g, o, e, ?_⟩
 show _ = some ((l.map B).getD k undef)
 rw [hc]
 show some (B (gB l k)) = _
 rw [gB_eq hkl]
 simp [List.getD, List.getElem?_eq_getElem hkl]

/-- append of bytes, at an operation of a region that draws. -/
theorem wp_appB (w : World) {o : Oper} {a : Act} {K : Act → World → Prop} {Q : Exit → Act → World → Prop} (s x : Operand)
  (ho : o.op = .call { callee := .builtin .append, args := #[s, x], argTypes := #[39, 39] })
  (base : Nat) (v : Value) (n : Nat) (l : List UInt8) (hs : a.eval s = v) (hown : w.ownsRow base 5 1 v n (l.map B))
  (A : Option Addr) (m c : Nat) (l' : List UInt8) (hx : a.eval x = .slice A m c) (hr : BS w A m c l') (hb : n + m ≤ 140737488355328) (hbase : base ≤ w.heap.size)
  (h : ∀ v' w', AppPost base 5 v n m ((l ++ l').map B) v' w w' → K (a.put o.dst v') w') : o.wp Tryz.prog a w K Q := by
 obtain ⟨i, hi, hz, hsz, hby⟩ := info_some infoU8
 exact wp_app w s x _ ho base 5 i _ 1 Tryz.underlying39 hi hz hsz hby rfl v n (l.map B) hs hown A m c (l'.map B) hx (by simp [hr.1]) (cells_of_BS hr) (by simp [Value.oneCell']) (by omega) hb hbase
  (fun v' w' hp => h v' w' (by rw [List.map_append]; exact hp))
theorem wpList_appB (w : World) {ops : Array Oper} {rest : List Oper} {o : Oper} {a : Act} {Q : Exit → Act → World → Prop} (hgd : o.guard = none) (s x : Operand)
  (ho : o.op = .call { callee := .builtin .append, args := #[s, x], argTypes := #[39, 39] })
  (base : Nat) (v : Value) (n : Nat) (l : List UInt8) (hs : a.eval s = v) (hown : w.ownsRow base 5 1 v n (l.map B))
  (A : Option Addr) (m c : Nat) (l' : List UInt8) (hx : a.eval x = .slice A m c) (hr : BS w A m c l') (hb : n + m ≤ 140737488355328) (hbase : base ≤ w.heap.size)
  (h : ∀ v' w', AppPost base 5 v n m ((l ++ l').map B) v' w w' → wpList Tryz.prog ops Q rest (a.put o.dst v') w') : wpList Tryz.prog ops Q (o :: rest) a w :=
 wpList_plain hgd fun _ hK => wp_appB w s x ho base v n l hs hown A m c l' hx hr hb hbase fun v' w' hp => hK _ _ (h v' w' hp)

/-- One value appended: it lies in a new block of its own. -/
theorem cells_one {w : World} {g : Nat} {t : TypeId} {u : Value} (h : Blk w g t #[u]) : Cells w (some ⟨g, 0, none⟩) 1 (fun k => [u].getD k undef) := fun k hk => by
 obtain rfl : k = 0 := by omega
 exact ⟨g, 0, rfl, by rw [h.cell]; rfl⟩
theorem wp_app1 (w : World) {o : Oper} {a : Act} {K : Act → World → Prop} {Q : Exit → Act → World → Prop} (s x : Operand) (t e : TypeId) (z : Value) (bytes : Nat) (ht : Tryz.prog.underlying t = some (.slice e))
  (hinfo : (Tryz.prog.info? e).map (fun i => (i.zero, i.size, i.bytes)) = some (some z, 1, bytes)) (hzs : z.cells.size = 1)
  (ho : o.op = .call { callee := .builtin .append, args := #[s, x], argTypes := #[t, t] })
  (base : Nat) (v : Value) (n : Nat) (xs : List Value) (hs : a.eval s = v) (hown : w.ownsRow base e 1 v n xs)
  (g c : Nat) (te : TypeId) (u : Value) (hx : a.eval x = .slice (some ⟨g, 0, none⟩) 1 c) (hblk : Blk w g te #[u]) (hu : u.oneCell' = true) (hb : (n + 1) * bytes ≤ 140737488355328) (hn : n < 140737488355328) (hbase : base ≤ w.heap.size)
  (h : ∀ v' w', AppPost base e v n 1 (xs ++ [u]) v' w w' → K (a.put o.dst v') w') : o.wp Tryz.prog a w K Q := by
 obtain ⟨i, hi, hz, hsz, hby⟩ := info_some hinfo
 exact wp_app w s x _ ho base e i _ bytes ht hi hz hsz hby hzs v n xs hs hown _ 1 c [u] hx rfl (cells_one hblk) (by simp [hu]) hb (by omega) hbase h
theorem wpList_app1 (w : World) {ops : Array Oper} {rest : List Oper} {o : Oper} {a : Act} {Q : Exit → Act → World → Prop} (hgd : o.guard = none) (s x : Operand) (t e : TypeId) (z : Value) (bytes : Nat) (ht : Tryz.prog.underlying t = some (.slice e))
  (hinfo : (Tryz.prog.info? e).map (fun i => (i.zero, i.size, i.bytes)) = some (some z, 1, bytes)) (hzs : z.cells.size = 1)
  (ho : o.op = .call { callee := .builtin .append, args := #[s, x], argTypes := #[t, t] })
  (base : Nat) (v : Value) (n : Nat) (xs : List Value) (hs : a.eval s = v) (hown : w.ownsRow base e 1 v n xs)
  (g c : Nat) (te : TypeId) (u : Value) (hx : a.eval x = .slice (some ⟨g, 0, none⟩) 1 c) (hblk : Blk w g te #[u]) (hu : u.oneCell' = true) (hb : (n + 1) * bytes ≤ 140737488355328) (hn : n < 140737488355328) (hbase : base ≤ w.heap.size)
  (h : ∀ v' w', AppPost base e v n 1 (xs ++ [u]) v' w w' → wpList Tryz.prog ops Q rest (a.put o.dst v') w') : wpList Tryz.prog ops Q (o :: rest) a w :=
 wpList_plain hgd fun _ hK => wp_app1 w s x t e z bytes ht hinfo hzs ho base v n xs hs hown g c te u hx hblk hu hb hn hbase fun v' w' hp => hK _ _ (h v' w' hp)

/-- An owned row's block is not one of another element type. -/
theorem own_ne {w : World} {base : Nat} {e t : TypeId} {n g : Nat} {v : Value} {xs : List Value} {cs : Array Value} (h : w.ownsRow base e 1 v n xs) (hg : Blk w g t cs) (hne : e ≠ t) : v.ownBlock ≠ some g := by
 rcases h.2 with ⟨rfl, _⟩ | ⟨g', cap, cur, rfl, _, hh, _⟩
 ·
  simp [Value.ownBlock]
 ·
  intro he
  have : g' = g := by simpa [Value.ownBlock] using he
  subst this
  unfold Blk at hg
  rw [hg] at hh
  injection hh with hh
  injection hh with _ ht
  exact hne ht.symm
theorem own_base {w : World} {base : Nat} {e : TypeId} {n : Nat} {v : Value} {xs : List Value} (h : w.ownsRow base e 1 v n xs) : ∀ k, v.ownBlock = some k → base ≤ k := fun k hk => (h.lt k hk).1
theorem grown_blk {w w' : World} {row : Option Nat} {g : Nat} {t : TypeId} {cs : Array Value} (hg : w.grownBy w' row) (h : Blk w g t cs) (hne : row ≠ some g) : Blk w' g t cs :=
 (hg.block g h.lt (fun e => hne e.symm)).trans h
end Go.Proofs.YtfcakjpljjnjnaaGreatDoor
/- A new slice of given bytes ([]byte{..}), as a law at the operation. -/
namespace Go.Proofs.YtfcakjpljjnjnaaGreatDoor
open Go Go.RowKit Gf

theorem wpList_bslice {P : Program} (w : World) {ops : Array Oper} {rest : List Oper} {o : Oper} {a : Act} {Q : Exit → Act → World → Prop} (hg : o.guard = none) (t te : TypeId) (n : Nat) (parts : Array (Nat × Operand)) (hop : o.op = .buildSlice t n parts) (ps : Array (Nat × Value)) (hps : (parts.map fun (i, x) => (i, a.eval x)) = ps) (l : List Value)
  (hr : (Instr.buildSlice t n ps).run P w = .ok (.slice (some ⟨w.heap.size, 0, none⟩) n n) (w.alloc (.cells l.toArray te)))
  (h : ∀ w', BL w' w.heap.size te l → Below w.heap.size w w' → w'.heap.size = w.heap.size + 1 → wpList P ops Q rest (a.put o.dst (.slice (some ⟨w.heap.size, 0, none⟩) n n)) w') : wpList P ops Q (o :: rest) a w :=
 wpList_plain hg fun K hK => by
  unfold Oper.wp execOp
  simp only [hop, hps]
  simp [hr, Result.andThen]
  exact hK _ _ (h _ (BL.new w te l) ((Below.refl _ _).alloc (Nat.le_refl _) _) (by simp))
theorem bsl4 (a b c d : UInt8) (w : World) : (Instr.buildSlice 39 4 #[(0, B a), (1, B b), (2, B c), (3, B d)]).run Tryz.prog w = .ok (.slice (some ⟨w.heap.size, 0, none⟩) 4 4) (w.alloc (.cells [B a, B b, B c, B d].toArray 5)) := by kernel_rfl

/-- make([]T, k, n), T of one cell. -/
theorem wpList_mk {P : Program} (w : World) {ops : Array Oper} {rest : List Oper} {o : Oper} {a : Act} {Q : Exit → Act → World → Prop} (hg : o.guard = none) (t te : TypeId) (x y : Operand) (hop : o.op = .makeSlice t x y) (zv : Value) (bytes : Nat) (ht : P.underlying t = some (.slice te))
  (hinfo : (P.info? te).map (fun i => (i.zero, i.size, i.bytes)) = some (some zv, 1, bytes)) (hz1 : zv.cells = #[zv]) (k n : Nat) (zx zy : Int) (hx : a.eval x = .int .i64 zx) (hy : a.eval y = .int .i64 zy) (hzx : zx = (k : Int)) (hzy : zy = (n : Int)) (hk : k ≤ n) (hb : bytes * n ≤ 281474976710656) (hn : n ≤ 9223372036854775807)
  (h : ∀ w', BL w' w.heap.size te (List.replicate n zv) → Below w.heap.size w w' → w'.heap.size = w.heap.size + 1 → wpList P ops Q rest (a.put o.dst (.slice (some ⟨w.heap.size, 0, none⟩) k n)) w') : wpList P ops Q (o :: rest) a w :=
 wpList_plain hg fun K hK => by
  subst hzx hzy
  obtain ⟨i, hi, hz, hs, hby⟩ := info_parts hinfo
  have hbb : (i.bytes : Int) * (n : Int) ≤ 281474976710656 := by rw [hby, ← Int.natCast_mul]; exact Int.ofNat_le.2 hb
  have hr := run_make (P := P) w t te i zv ht hi hz .i64 .i64 (k : Int) (n : Int) (by omega) (by omega) hbb (by omega)
  rw [hs, hz1] at hr
  simp only [Int.toNat_natCast, Nat.mul_one, made_one] at hr
  unfold Oper.wp execOp
  simp only [hop, hx, hy]
  simp [hr, Result.andThen]
  exact hK _ _ (h _ (BL.new w te _) ((Below.refl _ _).alloc (Nat.le_refl _) _) (by simp))

/-- A byte slice of the call's own over a block known whole. -/
theorem BL.bs {w : World} {g : Nat} {t : TypeId} {l : List UInt8} (h : BL w g t (l.map B)) {n : Nat} (hn : l.length = n) (hl : n ≤ lim) : BS w (some ⟨g, 0, none⟩) n n l :=
 ⟨hn, Nat.le_refl _, hl, fun k hk => ⟨g, 0, rfl, by
  rw [Nat.zero_add]
  refine h.get ?_
  rw [List.getElem?_map, List.getElem?_eq_getElem (by omega)]
  show some (B _) = some (B (gB l k))
  rw [gB_eq (by omega)]⟩⟩
/-- .. as an owned row. -/
theorem BL.own {w : World} {g base : Nat} {t : TypeId} {l : List Value} (h : BL w g t l) (hg : base ≤ g) {n : Nat} (hn : l.length = n) (hl : n ≤ lim) : w.ownsRow base t 1 (.slice (some ⟨g, 0, none⟩) n n) n l := by
 unfold lim at hl
 refine ⟨by omega, .inr ⟨g, n, l.toArray, rfl, hg, h, Nat.le_refl _, by unfold maxLen; omega, by simp [hn], ?_⟩⟩
 simp [← hn]
theorem BL.own0 {w : World} {g base : Nat} {t : TypeId} {l : List Value} (h : BL w g t l) (hg : base ≤ g) {n : Nat} (hn : l.length = n) (hl : n ≤ lim) : w.ownsRow base t 1 (.slice (some ⟨g, 0, none⟩) 0 n) 0 [] := by
 unfold lim at hl
 exact ⟨rfl, .inr ⟨g, n, l.toArray, rfl, hg, h, Nat.zero_le _, by unfold maxLen; omega, by simp [hn], rfl⟩⟩
theorem AppPost.own {base : Nat} {e : TypeId} {v : Value} {n m : Nat} {xs : List Value} {v' : Value} {w w' : World} (h : AppPost base e v n m xs v' w w') : w'.ownsRow base e 1 v' (n + m) xs := h.1
/-- An append is no change of what is old. -/
theorem AppPost.below {base B : Nat} {e : TypeId} {v : Value} {n m : Nat} {xs ys : List Value} {v' : Value} {w0 w w' : World} (h : AppPost base e v n m xs v' w w') (ho : w.ownsRow base e 1 v n ys) (hb : Below B w0 w) (hB : B ≤ base) (hs : B ≤ w.heap.size) : Below B w0 w' :=
 hb.grown h.2.1 hs (fun b hb' => Nat.le_trans hB (own_base ho b hb'))
theorem AppPost.kp {base : Nat} {e : TypeId} {v : Value} {n m : Nat} {xs ys : List Value} {v' : Value} {S : Nat → Prop} {w0 w w' : World} (h : AppPost base e v n m xs v' w w') (ho : w.ownsRow base e 1 v n ys) (hb : Kp S w0 w) (hB : w0.heap.size ≤ base) : Kp S w0 w' :=
 hb.grown h.2.1 (fun k hk => .inr (Nat.le_trans hB (own_base ho k hk)))
theorem own_form {w : World} {base n : Nat} {e : TypeId} {v : Value} {xs : List Value} (h : w.ownsRow base e 1 v n xs) (hn : 0 < n) : ∃ g cap, v = .slice (some ⟨g, 0, none⟩) n cap := by
 rcases h.2 with ⟨_, h0⟩ | ⟨g, cap, _, rfl, _⟩
 ·
  omega
 ·
  exact ⟨g, cap, rfl⟩
/-- Behind an append of some elements: the value written out. -/
theorem AppPost.form {base : Nat} {e : TypeId} {v : Value} {n m : Nat} {xs : List Value} {v' : Value} {w w' : World} (h : AppPost base e v n m xs v' w w') (hn : 0 < n + m) : ∃ g cap, v' = .slice (some ⟨g, 0, none⟩) (n + m) cap := own_form h.1 hn
/-- A block of another element type stays. -/
theorem AppPost.bl {base : Nat} {e : TypeId} {v : Value} {n m : Nat} {xs ys l : List Value} {v' : Value} {w w' : World} {g : Nat} {t : TypeId} (h : AppPost base e v n m xs v' w w') (ho : w.ownsRow base e 1 v n ys) (hb : BL w g t l) (hne : e ≠ t) : BL w' g t l :=
 grown_blk h.2.1 hb (own_ne ho hb hne)
end Go.Proofs.YtfcakjpljjnjnaaGreatDoor
/- The padding of SHA-256 as the program makes it. No program in sight. -/
namespace Go.Proofs.YtfcakjpljjnjnaaGreatDoor
open Go Go.RowKit Gf

namespace Sha
/-- How many zeros. -/
def zr (n : Nat) : Nat := (119 - n % 64) % 64
/-- After the 128, k zeros. -/
def padz (k : Nat) : List UInt8 := (128 : UInt8) :: List.replicate k 0
theorem padz_succ (k : Nat) : padz k ++ [0] = padz (k + 1) := by
 simp only [padz, List.cons_append]; rw [List.replicate_succ']
/-- Byte i of the count. -/
def cb (n i : Nat) : UInt8 := UInt8.ofNat ((n * 8) >>> (56 - 8 * i))
/-- .. and i bytes of the count. -/
def padc (n i : Nat) : List UInt8 := padz (zr n) ++ (List.range i).map (cb n)
theorem padc_zero (n : Nat) : padc n 0 = padz (zr n) := by simp [padc]
theorem padc_succ (n i : Nat) : padc n i ++ [cb n i] = padc n (i + 1) := by
 rw [padc, padc, List.range_succ, List.map_append, List.append_assoc]; rfl
theorem padding_padc (n : Nat) : padding n = padc n 8 := by
 simp only [padding, padc, padz, be8, List.cons_append]; rfl
theorem zr_spec (n k : Nat) (h : k < zr n) : (n + (k + 1)) % 64 ≠ 56 := by unfold zr at h; omega
theorem zr_end (n : Nat) : (n + (zr n + 1)) % 64 = 56 := by unfold zr; omega
theorem zr_lt (n : Nat) : zr n < 64 := by unfold zr; omega
/-- The bytes of the first k words. -/
def outb (s : St) : Nat → List UInt8
 | 0 => []
 | k + 1 => outb s k ++ bytes4 (sw s k)
theorem outb_all (s : St) : outb s 8 = s.bytes := rfl
theorem sha_length (l : List UInt8) : (sha l).length = 32 := rfl
/-- The bytes of a word as the walk spells them. -/
theorem conv_b (x : UInt32) : IntKind.u8.wrap (wv x) = bv x.toUInt8 := by
 unfold wv bv
 show (x.toNat : Int) % 256 = _
 rw [UInt32.toNat_toUInt8]
 omega
theorem sh24 (x : UInt32) : wv x / (16777216 : Int) = wv (x >>> 24) := shr_w x 24 (by decide)
theorem sh16 (x : UInt32) : wv x / (65536 : Int) = wv (x >>> 16) := shr_w x 16 (by decide)
theorem sh8 (x : UInt32) : wv x / (256 : Int) = wv (x >>> 8) := shr_w x 8 (by decide)
end Sha
end Go.Proofs.YtfcakjpljjnjnaaGreatDoor
