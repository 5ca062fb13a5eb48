/- Several texts in one: Wr, Sum, Join, Hm0. -/
import Derived.Test.YtgjgofjabdjclaaDoorA6
import Derived.Test.YtgjgofjabdjclaaDoorA8
import Derived.Test.YtgjgofjabdjclaaDoorA3
import Derived.Test.YtgjgofjabdjclaaDoorA7
/- Contract of (*sha256.State).Write. -/
namespace Go.Proofs.YtgjgofjabdjclaaDoor
open Go.RowKit Gf Sha

def lenV : Value → Nat
  | .slice _ n _ => n
  | _ => 0
theorem Tabs.size {w : World} (h : Tabs w) : 2 < w.heap.size := by
  have := cell_lt (h.con 0 _ rfl)
  simpa using this
/-- What was written into the sum in block g. -/
def WrPost (w : World) (g : Nat) (t : TypeId) (rest : List Value) (l : List UInt8) (e : Ending) (w' : World) : Prop := e = .returned (.tuple #[]) ∧ Hs w' g t rest l ∧ Kp (· = g) w w'
/-- In the midst: P is done, x1 is to come. -/
structure WrMid (w : World) (g : Nat) (t : TypeId) (rest : List Value) (T P : List UInt8) (A : Option Addr) (n c : Nat) (x : List UInt8) (w' : World) : Prop where
  all : P ++ x = T
  whole : P.length % 64 = 0
  src : BS w' A n c x
  far : FarB A n (· = g)
  st : ∃ buf : List UInt8, buf.length = 64 ∧ BL w' g t (stv (hs P) buf T.length rest)
  kp : Kp (· = g) w w'
theorem WrMid.next {r : List Value} {w : World} {g : Nat} {t : TypeId} {rest : List Value} {T P : List UInt8} {A : Option Addr} {n c : Nat} {x : List UInt8} {w1 w2 : World} (h : WrMid w g t rest T P A n c x w1) (hn : 64 ≤ n)
    (hb : BL w2 g t ((comp (hs P) (x.take 64)).cells ++ r)) (hr : ∃ buf : List UInt8, buf.length = 64 ∧ r = buf.map B ++ (.int .i64 (T.length : Int) :: rest)) (hk : Kp (· = g) w1 w2) : WrMid w g t rest T (P ++ x.take 64) (cutA A c 64) (n - 64) (c - 64) (x.drop 64) w2 := by
  have hl : (x.take 64).length = 64 := by simp [h.src.1]; omega
  obtain ⟨buf, h1, rfl⟩ := hr
  refine ⟨by rw [List.append_assoc, List.take_append_drop]; exact h.all, by rw [List.length_append, hl]; have := h.whole; omega, (h.src.kpf hk h.far).cut hn, FarB.cut h.src h.far hn, ⟨buf, h1, ?_⟩, h.kp.trans hk⟩
  rw [hs_block _ _ h.whole hl]
  exact hb
theorem WrMid.last {w : World} {g : Nat} {t : TypeId} {rest : List Value} {T P : List UInt8} {A : Option Addr} {n c : Nat} {x : List UInt8} {w1 w2 : World} (h : WrMid w g t rest T P A n c x w1) (hn : n < 64) {buf : List UInt8} (hb1 : buf.length = 64)
    (hb : BL w2 g t (splice (stv (hs P) buf T.length rest) 8 ((x.take (min n 64)).map B))) (hk : Kp (· = g) w1 w2) : WrPost w g t rest T (.returned (.tuple #[])) w2 := by
  have hl := h.src.1
  have ht : T.length = P.length + n := by rw [← h.all, List.length_append, hl]
  have hw := h.whole
  rw [Nat.min_eq_left (by omega), List.take_of_length_le (by omega)] at hb
  have e := stv_splice (hs P) buf T.length 0 x rest hb1 (by omega)
  rw [Nat.add_zero] at e
  rw [e] at hb
  have h2 : T.length / 64 = P.length / 64 := by omega
  refine ⟨rfl, ⟨bufw buf 0 x, bufw_length _ _ _ hb1 (by omega), ?_, ?_⟩, h.kp.trans hk⟩
  · rw [← h.all] at h2 ⊢
    rw [hs_append P x h2, h.all]; exact hb
  · have h3 := bufw_take buf 0 x hb1 (by omega)
    rw [Nat.zero_add, List.take_zero, List.nil_append] at h3
    rw [show T.length % 64 = x.length by omega, h3]
    rw [← h.all] at h2 ⊢
    rw [tl64_append P x h2, tl64_zero P hw, List.nil_append]

set_option maxRecDepth 100000 in
set_option maxHeartbeats 8000000 in
theorem write_any (g n c : Nat) (A : Option Addr) (t : TypeId) (l x : List UInt8) (rest : List Value) (w : World) (hs0 : Hs w g t rest l) (h : BS w A n c x) (hT : Tabs w) (hg : 2 < g) (hA : FarB A n (· = g)) (hN : l.length + n ≤ 1152921504606846976) :
    Calls Tryd.prog 100 #[.pointer (some ⟨g, 0, none⟩), .slice A n c] w (WrPost w g t rest (l ++ x)) := by
  have HX := Lib.hid h
  have HT := Lib.hid hT
  have HA := Lib.hid hA
  have hn := h.len_le
  obtain ⟨buf, hb1, hb2, hb3⟩ := hs0
  have HB1 := Lib.hid hb1
  have HB2 := Lib.hid hb2
  have HB3 := Lib.hid hb3
  have q1 := hb2.get (stv_len _ _ _ _ hb1)
  have q2 := hb2.frozen 72
  obtain ⟨m, hm⟩ : ∃ m, m = l.length := ⟨_, rfl⟩
  have HW1 : Hid (BL (w.setCell ⟨g, 72, none⟩ (.int .i64 ((m : Int) + (n : Int)))) g t (stv (hs l) buf (l ++ x).length rest)) := Lib.hid (by
    have := hb2.set_ 72 (.int .i64 ((l.length + n : Nat) : Int))
    rw [stv_setlen _ _ _ _ _ hb1] at this
    rw [List.length_append, h.1, hm]
    exact this)
  have HK1 : Hid (Kp (· = g) w (w.setCell ⟨g, 72, none⟩ (.int .i64 ((m : Int) + (n : Int))))) := Lib.hid ((Kp.refl (· = g) _).set (.inl rfl) _)
  clear h hT hb1 hb2 hb3 hA
  rw [← hm] at q1 hN
  have HM := Lib.hid hm
  clear hm
  by_cases hu : 0 < m % 64
  · have hu1 : 0 < (m : Int) % 64 := by omega
    obtain ⟨u, hu2⟩ : ∃ u, u = m % 64 := ⟨_, rfl⟩
    have HUZ : Hid ((m : Int) % 64 = (u : Int)) := Lib.hid (by omega)
    have HUL : Hid (u < 64) := Lib.hid (by omega)
    have HU := Lib.hid hu2
    have HL1 : Hid (8 + u + (64 - u) ≤ (stv (hs l) buf (l ++ x).length rest).length) := Lib.hid (by rw [stv_length _ _ _ _ HB1.out]; omega)
    have HXK := Lib.hid (HX.out.kpf HK1.out HA.out)
    by_cases hnu : n < 64 - u
    · have HMIN : Hid (min n (64 - u) = n) := Lib.hid (by omega)
      have hA1 : (m : Int) % 64 + (n : Int) < 64 := by omega
      have HEND : Hid (∀ w2, BL w2 g t (splice (stv (hs l) buf (l ++ x).length rest) (8 + u) ((x.take n).map B)) → Kp (· = g) (w.setCell ⟨g, 72, none⟩ (.int .i64 ((m : Int) + (n : Int)))) w2 → WrPost w g t rest (l ++ x) (.returned (.tuple #[])) w2) := Lib.hid (fun w2 b1 b2 => by
        have hxl := HX.out.1
        have hml := HM.out
        rw [List.take_of_length_le (by omega), stv_splice _ _ _ _ _ _ HB1.out (by omega)] at b1
        have h2 : (l ++ x).length / 64 = l.length / 64 := by rw [List.length_append]; omega
        refine ⟨rfl, ⟨bufw buf u x, bufw_length _ _ _ HB1.out (by omega), by rw [hs_append l x h2]; exact b1, ?_⟩, HK1.out.trans b2⟩
        rw [tl64_append l x h2, show (l ++ x).length % 64 = u + x.length by rw [List.length_append]; omega, bufw_take _ _ _ HB1.out (by omega)]
        have h3 := HB3.out
        rw [← hml, ← hu2] at h3
        rw [h3])
      clear hu2
      go_enter Tryd.func100, Tryd.ntmps100
      go_wp2_with (first
        | ((with_reducible show wpList _ _ _ (⟨some 26, _, _, _, _, _⟩ :: _) _ _); refine wpList_cutarr _ rfl (.tmp 24) (.tmp 25) 139 5 64 rfl Tryd.underlying139 (by kernel_rfl) g 8 u _ rfl rfl HUZ.out HUL.out ?_)
        | ((with_reducible show wpList _ _ _ (⟨some 28, _, _, _, _, _⟩ :: _) _ _); refine wpList_copyB _ rfl (.tmp 26) (.tmp 27) 22 5 rfl Tryd.underlying22 (by kernel_rfl) g (8 + u) (64 - u) (64 - u) t _ rfl HW1.out A n c x rfl HXK.out HL1.out ?_; intro w2 b1 b2 b3; rw [HMIN.out] at b1; rw [HMIN.out])
        | ((with_reducible show wpList _ _ _ (⟨some 31, _, _, _, _, _⟩ :: _) _ _); refine wpList_cut _ rfl (.tmp 29) _ 22 5 rfl Tryd.underlying22 (by kernel_rfl) A n c n _ rfl rfl rfl (Nat.le_refl _) ?_))
      go_end0
      exact HEND.out w2 b1 b2
    · obtain ⟨kk, hkk⟩ : ∃ kk, kk = 64 - u := ⟨_, rfl⟩
      have HMIN : Hid (min n (64 - u) = kk) := Lib.hid (by omega)
      have hB1 : 64 ≤ (m : Int) % 64 + (kk : Int) := by omega
      have hkn : kk ≤ n := by omega
      have HKK := Lib.hid hkk
      have HB : Hid (∀ w2, BL w2 g t (splice (stv (hs l) buf (l ++ x).length rest) (8 + u) ((x.take kk).map B)) → BL w2 g t (stv (hs l) (tl64 l ++ x.take kk) (l ++ x).length rest) ∧ (tl64 l ++ x.take kk).length = 64) := Lib.hid (fun w2 b1 => by
        have hxl := HX.out.1
        have hml := HM.out
        have hk2 : (x.take kk).length = kk := by simp; omega
        have h3 := HB3.out
        rw [← hml, ← hu2] at h3
        rw [stv_splice _ _ _ _ _ _ HB1.out (by omega), bufw_full _ _ _ HB1.out (by omega), h3] at b1
        refine ⟨b1, ?_⟩
        rw [List.length_append, tl64_length, ← hml, ← hu2, hk2]; omega)
      have HN3 : Hid (∀ w2 w3, Kp (· = g) (w.setCell ⟨g, 72, none⟩ (.int .i64 ((m : Int) + (n : Int)))) w2 → BL w3 g t ((comp (hs l) (tl64 l ++ x.take kk)).cells ++ ((tl64 l ++ x.take kk).map B ++ (.int .i64 ((l ++ x).length : Int) :: rest))) → Kp (· = g) w2 w3 → WrMid w g t rest (l ++ x) (l ++ x.take kk) (cutA A c kk) (n - kk) (c - kk) (x.drop kk) w3) := Lib.hid (fun w2 w3 k2 b3 k3 => by
        have hxl := HX.out.1
        have hml := HM.out
        have hk2 : (x.take kk).length = kk := by simp; omega
        have k9 := HK1.out.trans (k2.trans k3)
        refine ⟨by rw [List.append_assoc, List.take_append_drop], by rw [List.length_append, hk2]; omega, (HX.out.kpf k9 HA.out).cut hkn, FarB.cut HX.out HA.out hkn, ⟨tl64 l ++ x.take kk, ?_, ?_⟩, k9⟩
        · rw [List.length_append, tl64_length, ← hml, ← hu2, hk2]; omega
        · rw [hs_fill l _ (by omega)]
          exact b3)
      clear hu2 hkk
      go_enter Tryd.func100, Tryd.ntmps100
      go_wp2_with (first
        | ((with_reducible show wpList _ _ _ (⟨some 26, _, _, _, _, _⟩ :: _) _ _); refine wpList_cutarr _ rfl (.tmp 24) (.tmp 25) 139 5 64 rfl Tryd.underlying139 (by kernel_rfl) g 8 u _ rfl rfl HUZ.out HUL.out ?_)
        | ((with_reducible show wpList _ _ _ (⟨some 28, _, _, _, _, _⟩ :: _) _ _); refine wpList_copyB _ rfl (.tmp 26) (.tmp 27) 22 5 rfl Tryd.underlying22 (by kernel_rfl) g (8 + u) (64 - u) (64 - u) t _ rfl HW1.out A n c x rfl HXK.out HL1.out ?_; intro w2 b1 b2 b3; rw [HMIN.out] at b1; rw [HMIN.out]; obtain ⟨b4, b5⟩ := HB.out w2 b1; have HB4 := Lib.hid b4; have HB5 := Lib.hid b5; have HB2k := Lib.hid b2; clear b1 b2 b3 b4 b5)
        | ((with_reducible show wpList _ _ _ (⟨some 31, _, _, _, _, _⟩ :: _) _ _); refine wpList_cut _ rfl (.tmp 29) _ 22 5 rfl Tryd.underlying22 (by kernel_rfl) A n c kk _ rfl rfl rfl hkn ?_)
        | (go_at_call 119; refine (process_any g 64 (some ⟨g, 8, none⟩) t (hs l) (tl64 l ++ x.take kk) _ w2 (BL.buf HB4.out HB5.out) HB4.out (HT.out.kp (HK1.out.trans HB2k.out) (by rintro k rfl; exact hg))).mono ?_; rintro e w3 ⟨rfl, p1, p2⟩; have HM1 := Lib.hid (HN3.out w2 w3 HB2k.out p1 p2); clear p1 p2))
      have hn1 : n - kk ≤ 140737488355328 := by omega
      go_loopw [1] (fun v wr => ∃ (P x1 : List UInt8) (A1 : Option Addr) (n1 c1 : Nat), v = .slice A1 n1 c1 ∧ n1 ≤ 140737488355328 ∧ Hid (WrMid w g t rest (l ++ x) P A1 n1 c1 x1 wr)) (fun v _ => lenV v)
      case atStart => exact ⟨_, _, _, _, _, rfl, hn1, HM1⟩
      case round =>
        obtain ⟨P, x1, A1, n1, c1, rfl, hn1, hmid⟩ := hrel
        obtain ⟨bf, f1, f2⟩ := hmid.out.st
        have hsz := hmid.out.kp.size
        have hTr := hmid.out.kp
        by_cases h64 : 64 ≤ n1
        · have hcc : 64 ≤ c1 := by have := hmid.out.src.2.1; omega
          have HP : Hid (∀ (e : Ending) (w2 : World), (e = .returned (.tuple #[]) ∧ BL w2 g t ((comp (hs P) (x1.take 64)).cells ++ (bf.map B ++ (.int .i64 ((l ++ x).length : Int) :: rest))) ∧ Kp (· = g) wr w2) → e = .returned (.tuple #[]) ∧ Hid (WrMid w g t rest (l ++ x) (P ++ x1.take 64) (cutA A1 c1 64) (n1 - 64) (c1 - 64) (x1.drop 64) w2)) := Lib.hid (fun e w2 hp => ⟨hp.1, Lib.hid (hmid.out.next h64 hp.2.1 ⟨bf, f1, rfl⟩ hp.2.2)⟩)
          have HF2 := Lib.hid f2
          have HTr : Hid (Tabs wr) := Lib.hid (HT.out.kp hTr (by rintro k rfl; exact hg))
          clear f1 f2 hTr
          go_wp2_with (first
            | (go_at_call 119; refine (process_any g c1 A1 t (hs P) (x1.take 64) _ wr (hmid.out.src.pre h64) HF2.out HTr.out).mono ?_; intro e w2 hp; obtain ⟨rfl, HM2⟩ := HP.out e w2 hp; clear hp)
            | ((with_reducible show wpList _ _ _ (⟨some 50, _, _, _, _, _⟩ :: _) _ _); refine wpList_cut _ rfl (.tmp 49) _ 22 5 rfl Tryd.underlying22 (by kernel_rfl) A1 n1 c1 64 64 rfl rfl rfl h64 ?_))
          go_roundw
          case rel => exact ⟨_, _, _, _, _, rfl, by omega, HM2⟩
          case measure => simp [lenV]; omega
        · have HF2 := Lib.hid f2
          have HS := Lib.hid hmid.out.src
          have HLA : Hid (∀ w2, BL w2 g t (splice (stv (hs P) bf (l ++ x).length rest) 8 ((x1.take (min n1 64)).map B)) → Kp (· = g) wr w2 → WrPost w g t rest (l ++ x) (.returned (.tuple #[])) w2) := Lib.hid (fun w2 b1 b2 => hmid.out.last (by omega) f1 b1 b2)
          have HLn : Hid (8 + 64 ≤ (stv (hs P) bf (l ++ x).length rest).length) := Lib.hid (by rw [stv_length _ _ _ _ f1]; omega)
          clear f1 f2 hTr
          go_wp2_with ((with_reducible show wpList _ _ _ (⟨some 56, _, _, _, _, _⟩ :: _) _ _); refine wpList_copyB _ rfl (.tmp 54) (.tmp 55) 22 5 rfl Tryd.underlying22 (by kernel_rfl) g 8 64 64 t _ rfl HF2.out A1 n1 c1 x1 rfl HS.out HLn.out ?_; intro w2 b1 b2 b3)
          go_end0
          exact HLA.out w2 b1 b2
  · have hu1 : (m : Int) % 64 ≤ 0 := by omega
    have HM1 : Hid (WrMid w g t rest (l ++ x) l A n c x (w.setCell ⟨g, 72, none⟩ (.int .i64 ((m : Int) + (n : Int))))) := Lib.hid ⟨rfl, by rw [← HM.out]; omega, HX.out.kpf HK1.out HA.out, HA.out, ⟨buf, HB1.out, HW1.out⟩, HK1.out⟩
    have hn1 := hn
    go_enter Tryd.func100, Tryd.ntmps100
    go_wp2_with fail
    go_loopw [1] (fun v wr => ∃ (P x1 : List UInt8) (A1 : Option Addr) (n1 c1 : Nat), v = .slice A1 n1 c1 ∧ n1 ≤ 140737488355328 ∧ Hid (WrMid w g t rest (l ++ x) P A1 n1 c1 x1 wr)) (fun v _ => lenV v)
    case atStart => exact ⟨_, _, _, _, _, rfl, hn1, HM1⟩
    case round =>
      obtain ⟨P, x1, A1, n1, c1, rfl, hn1, hmid⟩ := hrel
      obtain ⟨bf, f1, f2⟩ := hmid.out.st
      have hsz := hmid.out.kp.size
      have hTr := hmid.out.kp
      by_cases h64 : 64 ≤ n1
      · have hcc : 64 ≤ c1 := by have := hmid.out.src.2.1; omega
        have HP : Hid (∀ (e : Ending) (w2 : World), (e = .returned (.tuple #[]) ∧ BL w2 g t ((comp (hs P) (x1.take 64)).cells ++ (bf.map B ++ (.int .i64 ((l ++ x).length : Int) :: rest))) ∧ Kp (· = g) wr w2) → e = .returned (.tuple #[]) ∧ Hid (WrMid w g t rest (l ++ x) (P ++ x1.take 64) (cutA A1 c1 64) (n1 - 64) (c1 - 64) (x1.drop 64) w2)) := Lib.hid (fun e w2 hp => ⟨hp.1, Lib.hid (hmid.out.next h64 hp.2.1 ⟨bf, f1, rfl⟩ hp.2.2)⟩)
        have HF2 := Lib.hid f2
        have HTr : Hid (Tabs wr) := Lib.hid (HT.out.kp hTr (by rintro k rfl; exact hg))
        clear f1 f2 hTr
        go_wp2_with (first
          | (go_at_call 119; refine (process_any g c1 A1 t (hs P) (x1.take 64) _ wr (hmid.out.src.pre h64) HF2.out HTr.out).mono ?_; intro e w2 hp; obtain ⟨rfl, HM2⟩ := HP.out e w2 hp; clear hp)
          | ((with_reducible show wpList _ _ _ (⟨some 50, _, _, _, _, _⟩ :: _) _ _); refine wpList_cut _ rfl (.tmp 49) _ 22 5 rfl Tryd.underlying22 (by kernel_rfl) A1 n1 c1 64 64 rfl rfl rfl h64 ?_))
        go_roundw
        case rel => exact ⟨_, _, _, _, _, rfl, by omega, HM2⟩
        case measure => simp [lenV]; omega
      · have HF2 := Lib.hid f2
        have HS := Lib.hid hmid.out.src
        have HLA : Hid (∀ w2, BL w2 g t (splice (stv (hs P) bf (l ++ x).length rest) 8 ((x1.take (min n1 64)).map B)) → Kp (· = g) wr w2 → WrPost w g t rest (l ++ x) (.returned (.tuple #[])) w2) := Lib.hid (fun w2 b1 b2 => hmid.out.last (by omega) f1 b1 b2)
        have HLn : Hid (8 + 64 ≤ (stv (hs P) bf (l ++ x).length rest).length) := Lib.hid (by rw [stv_length _ _ _ _ f1]; omega)
        clear f1 f2 hTr
        go_wp2_with ((with_reducible show wpList _ _ _ (⟨some 56, _, _, _, _, _⟩ :: _) _ _); refine wpList_copyB _ rfl (.tmp 54) (.tmp 55) 22 5 rfl Tryd.underlying22 (by kernel_rfl) g 8 64 64 t _ rfl HF2.out A1 n1 c1 x1 rfl HS.out HLn.out ?_; intro w2 b1 b2 b3)
        go_end0
        exact HLA.out w2 b1 b2
end Go.Proofs.YtgjgofjabdjclaaDoor
/- Contracts of sha256.New and (*sha256.State).Sum. -/
namespace Go.Proofs.YtgjgofjabdjclaaDoor
open Go.RowKit Gf Sha

theorem build_ini (w : World) : (Instr.build 142 #[(0, .agg ini.cells.toArray)]).run Tryd.prog w = .ok (.agg (stv ini (List.replicate 64 0) 0 []).toArray) w := by kernel_rfl

set_option maxRecDepth 100000 in
set_option maxHeartbeats 1000000 in
theorem new_any (w : World) (hT : Tabs w) :
    Calls Tryd.prog 99 #[] w fun e w' => e = .returned (.pointer (some ⟨w.heap.size, 0, none⟩)) ∧ Hs w' w.heap.size 142 [] [] ∧ Below w.heap.size w w' := by
  have HT := Lib.hid hT
  clear hT
  go_enter Tryd.func99, Tryd.ntmps99
  go_wp2_with (first
    | ((with_reducible show wpList _ _ _ (⟨some 1, _, _, _, _, _⟩ :: _) _ _); refine wpList_loadv _ rfl 122 (.global 1) rfl 8 (by kernel_rfl) 1 0 ini.cells rfl HT.out.ini rfl ?_)
    | ((with_reducible show wpList _ _ _ (⟨some 2, _, _, _, _, _⟩ :: _) _ _); refine wpList_build _ rfl 142 _ rfl #[(0, .agg ini.cells.toArray)] rfl _ (build_ini _) ?_)
    | ((with_reducible show wpList _ _ _ (⟨some 3, _, _, _, _, _⟩ :: _) _ _); refine wpList_box _ rfl 142 (.tmp 2) rfl (stv ini (List.replicate 64 0) 0 []) rfl ?_; intro w2 b1 b2 b3))
  go_ret
  exact ⟨rfl, ⟨List.replicate 64 0, rfl, b1, rfl⟩, b2⟩

attribute [local go_sem] Sha.conv_b Sha.sh24 Sha.sh16 Sha.sh8
theorem stv_first (s : St) (buf : List UInt8) (n : Nat) (rest : List Value) : stv s buf n rest = stv s buf n [] ++ rest := by simp [stv]
theorem stv_first_length (s : St) (buf : List UInt8) (n : Nat) (h : buf.length = 64) : (stv s buf n []).length = 73 := by rw [stv_length _ _ _ _ h]; rfl
theorem stv_one (s : St) (buf : List UInt8) (n : Nat) : ∀ v ∈ stv s buf n [], v.oneCell' = true := by
  intro v hv
  simp only [stv, St.cells, List.mem_append, List.mem_map, List.mem_cons, List.not_mem_nil, or_false] at hv
  rcases hv with (rfl | rfl | rfl | rfl | rfl | rfl | rfl | rfl) | ⟨b, _, rfl⟩ | rfl <;> rfl
theorem zero_state : (Tryd.prog.info? 142).map (·.zero) = some (some (.agg (stv ⟨0, 0, 0, 0, 0, 0, 0, 0⟩ (List.replicate 64 0) 0 []).toArray)) := by kernel_rfl
theorem splice_all (l vs : List Value) (h : vs.length = l.length) : splice l 0 vs = vs := by simp [splice, h]

set_option maxRecDepth 100000 in
set_option maxHeartbeats 2000000 in
theorem sum_any (g : Nat) (t : TypeId) (l : List UInt8) (rest : List Value) (w : World) (hs0 : Hs w g t rest l) (hT : Tabs w) (hN : l.length ≤ 1125899906842624) :
    Calls Tryd.prog 101 #[.pointer (some ⟨g, 0, none⟩)] w fun e w' => e = .returned (.string (strB (sha l))) ∧ Below w.heap.size w w' := by
  have HT := Lib.hid hT
  have HH := Lib.hid hs0
  obtain ⟨buf, hb1, hb2, hb3⟩ := hs0
  have HB1 := Lib.hid hb1
  have HB3 := Lib.hid hb3
  have q1 := hb2.get (stv_len _ _ _ _ hb1)
  obtain ⟨n, hn⟩ : ∃ n, n = l.length := ⟨_, rfl⟩
  rw [← hn] at q1 hN hb2
  rw [stv_first] at hb2
  have HAT := Lib.hid (BL.all hb2).left
  have HBL := Lib.hid hb2
  have HN := Lib.hid hn
  clear hn hb1 hb2 hb3 hT
  go_enter Tryd.func101, Tryd.ntmps101
  go_wp2_with (first
    | ((with_reducible show wpList _ _ _ (⟨some 12, _, _, _, _, _⟩ :: _) _ _); refine wpList_loadv _ rfl 142 (.tmp 11) rfl 73 (by kernel_rfl) g 0 (stv (hs l) buf n []) rfl HAT.out (stv_first_length _ _ _ HB1.out) ?_)
    | ((with_reducible show wpList _ _ _ (⟨some 3, _, _, _, _, _⟩ :: _) _ _); refine wpList_alloc _ rfl 142 rfl (stv ⟨0, 0, 0, 0, 0, 0, 0, 0⟩ (List.replicate 64 0) 0 []) zero_state ?_; intro w2 b1 b2 b3; have HB2 := Lib.hid b2; have HZ2 := Lib.hid b3; clear b2 b3)
    | ((with_reducible show wpList _ _ _ (⟨none, _, _, _, _, _⟩ :: _) _ _); refine wpList_storev _ rfl 142 (.tmp 3) (.tmp 12) rfl 73 (by kernel_rfl) w.heap.size 0 _ _ (stv (hs l) buf n []) rfl rfl b1 (stv_first_length _ _ _ HB1.out) (stv_one _ _ _) (by decide) ?_; intro w3 c1 c2 c3; rw [splice_all _ _ (by rw [stv_first_length _ _ _ HB1.out]; rfl)] at c1; have HC1 := Lib.hid c1; have HC2 := Lib.hid c2; have HC3 := Lib.hid c3; clear b1 c1 c2 c3))
  have HO4 : Hid ((w3.alloc (.cells #[.int .u8 128] 5)).ownsRow w3.heap.size 5 1 (.slice (some ⟨w3.heap.size, 0, none⟩) 1 1) 1 ((padz 0).map B)) := Lib.hid (BL.own (BL.new w3 5 [B 128]) (Nat.le_refl _) rfl (by decide))
  have HB4 : Hid (Below w3.heap.size w3 (w3.alloc (.cells #[.int .u8 128] 5))) := Lib.hid ((Below.refl _ _).alloc (Nat.le_refl _) _)
  have hz := zr_lt n
  go_loopw [4] (fun v wr => ∃ (k m g4 c4 : Nat), k ≤ zr n ∧ m ≤ 64 ∧ v = .slice (some ⟨g4, 0, none⟩) m c4 ∧ Hid (m = k + 1) ∧ Hid (wr.ownsRow w3.heap.size 5 1 (.slice (some ⟨g4, 0, none⟩) m c4) m ((padz k).map B)) ∧ Hid (Below w3.heap.size w3 wr)) (fun v _ => 65 - lenV v)
  case atStart => exact ⟨0, 1, _, _, by omega, by omega, rfl, Lib.hid rfl, HO4, HB4⟩
  case round =>
    obtain ⟨k, m, g4, c4, hk, hm64, rfl, hm, ho, hbw⟩ := hrel
    have hq : wr.cell? ⟨g, 72, none⟩ = some (.int .i64 (n : Int)) := by
      have e1 := cell_kept HB2.out q1
      have e2 := HC2.out.cell e1 (by show ¬ g = w.heap.size; have := HBL.out.lt; omega)
      exact cell_kept hbw.out e2
    by_cases hlt : k < zr n
    · have ht : (((n : Int) + (m : Int)) % 64 != 56) = true := by
        have := zr_spec n k hlt
        have e := hm.out
        simp only [bne_iff_ne, ne_eq]; omega
      have hm2 : m < 64 := by have := hm.out; omega
      have HBB := Lib.hid (hbw.out.alloc hbw.out.size (.cells #[.int .u8 0] 5))
      have HOO := Lib.hid (ho.out.kept (World.grownBy_alloc wr (.cells #[.int .u8 0] 5) none) (by simp [Value.ownBlock]))
      have HBK : Hid (Blk (wr.alloc (.cells #[.int .u8 0] 5)) wr.heap.size 5 #[B 0]) := Lib.hid (Blk.new wr 5 #[B 0])
      go_wp2_with ((with_reducible show wpList _ _ _ (⟨some 25, _, _, _, _, _⟩ :: _) _ _); refine wpList_app1 _ rfl (.tmp 23) (.tmp 24) 22 5 (.int .u8 0) 1 Tryd.underlying22 infoU8 rfl rfl w3.heap.size _ m _ rfl HOO.out wr.heap.size 1 5 (B 0) rfl HBK.out rfl (by omega) (by omega) HBB.out.size ?_; intro v6 w6 hp)
      obtain ⟨g6, c6, rfl⟩ := hp.form (by omega)
      have HO6 : Hid (w6.ownsRow w3.heap.size 5 1 (.slice (some ⟨g6, 0, none⟩) (m + 1) c6) (m + 1) ((padz (k + 1)).map B)) := Lib.hid (by have := hp.own; rw [← padz_succ, List.map_append]; exact this)
      have HB6 := Lib.hid (hp.below HOO.out HBB.out (Nat.le_refl _) HBB.out.size)
      clear hp ht hq
      go_wp2_with fail
      go_roundw
      case rel => exact ⟨k + 1, m + 1, _, _, by omega, by omega, rfl, Lib.hid (by rw [hm.out]), HO6, HB6⟩
      case measure => simp [lenV]; omega
    · obtain rfl : k = zr n := by omega
      have ht : (((n : Int) + (m : Int)) % 64 != 56) = false := by
        have := zr_end n
        have e := hm.out
        simp only [bne_eq_false_iff_eq]; omega
      go_wp2_with fail
      clear ht hq
      have HO4 := Lib.hid ho.out
      have HBW := Lib.hid hbw.out
      have hb1 : m ≤ 64 := hm64
      have HOI : Hid (wr.ownsRow w3.heap.size 5 1 (.slice (some ⟨g4, 0, none⟩) m c4) m ((padc n 0).map B)) := Lib.hid (by rw [padc_zero]; exact ho.out)
      go_loopw [4, 6] (fun v sh wx => ∃ (i m g5 c5 : Nat) (z : Int), i ≤ 8 ∧ m ≤ 72 ∧ z + 8 * i ≤ 56 ∧ 56 ≤ z + 8 * i ∧ sh = .int .i64 z ∧ v = .slice (some ⟨g5, 0, none⟩) m c5 ∧ Hid (m = zr n + 1 + i) ∧ Hid (wx.ownsRow w3.heap.size 5 1 (.slice (some ⟨g5, 0, none⟩) m c5) m ((padc n i).map B)) ∧ Hid (Below w3.heap.size w3 wx)) (fun _ sh _ => (intOf sh + 8).toNat)
      case atStart => exact ⟨0, m, _, _, 56, by omega, by omega, by omega, by omega, rfl, rfl, hm, HOI, HBW⟩
      case round =>
        obtain ⟨i, m, g5, c5, z, hi, hm72, hz1, hz2, rfl, rfl, hmi, ho5, hb5⟩ := hrel
        by_cases hlt : i < 8
        · have hz0 : 0 ≤ z := by omega
          have hm2 : m < 72 := by have := hmi.out; omega
          obtain ⟨wx, hwx⟩ : ∃ x, x = wr := ⟨_, rfl⟩
          rw [← hwx] at ho5 hb5 ⊢
          clear hwx
          have HBB := Lib.hid (hb5.out.alloc hb5.out.size (.cells #[B (cb n i)] 5))
          have HOO := Lib.hid (ho5.out.kept (World.grownBy_alloc wx (.cells #[B (cb n i)] 5) none) (by simp [Value.ownBlock]))
          have HBK : Hid (Blk (wx.alloc (.cells #[B (cb n i)] 5)) wx.heap.size 5 #[B (cb n i)]) := Lib.hid (Blk.new wx 5 #[B (cb n i)])
          go_wp2_with (first
            | ((with_reducible show wpList _ _ _ (⟨some 39, _, _, _, _, _⟩ :: _) _ _); refine wpList_shrN _ rfl (.tmp 37) (.tmp 38) _ _ rfl .i64 (n * 8) (56 - 8 * i) _ z rfl rfl (by omega) (by omega) (by omega) ?_)
            | ((with_reducible show wpList _ _ _ (⟨some 40, _, _, _, _, _⟩ :: _) _ _); refine wpList_u8N _ rfl (.tmp 39) 85 5 rfl _ .u64 Tryd.underlying85 Tryd.underlying5 _ _ rfl rfl ?_; rw [show UInt8.ofNat ((n * 8) >>> (56 - 8 * i)) = cb n i from rfl])
            | ((with_reducible show wpList _ _ _ (⟨some 42, _, _, _, _, _⟩ :: _) _ _); refine wpList_app1 _ rfl (.tmp 36) (.tmp 41) 22 5 (.int .u8 0) 1 Tryd.underlying22 infoU8 rfl rfl w3.heap.size _ m _ rfl HOO.out wx.heap.size 1 5 (B (cb n i)) rfl HBK.out rfl (by omega) (by omega) HBB.out.size ?_; intro v6 w6 hp))
          obtain ⟨g6, c6, rfl⟩ := hp.form (by omega)
          have HO6 : Hid (w6.ownsRow w3.heap.size 5 1 (.slice (some ⟨g6, 0, none⟩) (m + 1) c6) (m + 1) ((padc n (i + 1)).map B)) := Lib.hid (by have := hp.own; rw [← padc_succ, List.map_append]; exact this)
          have HB6 := Lib.hid (hp.below HOO.out HBB.out (Nat.le_refl _) HBB.out.size)
          clear hp
          go_wp2_with fail
          go_roundw
          case rel => exact ⟨i + 1, m + 1, _, _, z - 8, by omega, by omega, by omega, by omega, by go_num, rfl, Lib.hid (by rw [hmi.out]; omega), HO6, HB6⟩
          case measure => simp [intOf]; omega
        · obtain rfl : i = 8 := by omega
          have hz0 : z < 0 := by omega
          obtain ⟨wx, hwx⟩ : ∃ x, x = wr := ⟨_, rfl⟩
          rw [← hwx] at ho5 hb5 ⊢
          clear hwx
          have HHs : Hid (Hs wx w.heap.size 142 [] l) := Lib.hid (by
            refine ⟨buf, HB1.out, ?_, HB3.out⟩
            rw [← HN.out]
            exact HC1.out.kept hb5.out)
          have HTx : Hid (Tabs wx) := Lib.hid (((HT.out.kept HB2.out).kp HC2.out (by rintro k rfl; exact HT.out.size)).kept hb5.out)
          have HZ3 : Hid (w3.heap.size = w.heap.size + 1) := Lib.hid (by rw [HC3.out, HZ2.out])
          obtain ⟨Ap, cp, ep, hbs⟩ := BS.of_own ho5.out (by have := hm72; unfold lim; omega)
          cases ep
          have HBS := Lib.hid hbs
          have HFA : Hid (FarB (some ⟨g5, 0, none⟩) m (· = w.heap.size)) := Lib.hid (fun g' o' _ e e2 => by
            cases e
            have e2 : g5 = w.heap.size := e2
            have := own_base ho5.out g5 rfl
            have := HZ3.out
            omega)
          have HLm : Hid (l.length + m ≤ 1152921504606846976) := Lib.hid (by rw [← HN.out]; omega)
          have HTW : Hid (2 < w.heap.size) := Lib.hid HT.out.size
          have HE : Hid (sha l = (hs (l ++ padc n 8)).bytes) := Lib.hid (by rw [sha, ← HN.out, padding_padc])
          obtain ⟨T, hT⟩ : ∃ T, T = l ++ padc n 8 := ⟨_, rfl⟩
          rw [← hT] at HE
          have HTT := Lib.hid hT
          clear hbs hT
          go_wp2_with (first
            | (go_at_call 100; refine (write_any w.heap.size m c5 _ 142 l (padc n 8) [] wx HHs.out HBS.out HTx.out HTW.out HFA.out HLm.out).mono ?_; rintro e w7 ⟨rfl, r1, r2⟩; rw [← HTT.out] at r1; obtain ⟨bf, s1, s2, s3⟩ := r1; have HS1 := Lib.hid s1; have HS2 := Lib.hid s2; have HR2 := Lib.hid r2; have HS4 := Lib.hid (BL.all s2).left; clear r2 s1 s2 s3)
            | ((with_reducible show wpList _ _ _ (⟨some 45, _, _, _, _, _⟩ :: _) _ _); refine wpList_mk _ rfl 22 5 _ _ rfl (.int .u8 0) 1 Tryd.underlying22 infoU8 rfl 0 32 0 32 rfl rfl rfl rfl (by decide) (by decide) (by decide) ?_; intro w8 t1 t2 t3; have HM8 := Lib.hid t1; have HB8 := Lib.hid t2; have HZ8 := Lib.hid t3; clear t1 t2 t3)
            | ((with_reducible show wpList _ _ _ (⟨some 47, _, _, _, _, _⟩ :: _) _ _); refine wpList_loadv _ rfl 122 (.tmp 46) rfl 8 (by kernel_rfl) w.heap.size 0 (hs T).cells rfl ((HS4.out.left).kept HB8.out) rfl ?_))
          have HO8 : Hid (w8.ownsRow w7.heap.size 5 1 (.slice (some ⟨w7.heap.size, 0, none⟩) 0 32) 0 ((outb (hs T) 0).map B)) := Lib.hid (BL.own0 HM8.out (Nat.le_refl _) rfl (by decide))
          have HB8' : Hid (Below w7.heap.size w8 w8) := Lib.hid (Below.refl _ _)
          go_loopw [7, 48] (fun v iv wy => ∃ (k m g9 c9 : Nat), k ≤ 8 ∧ m ≤ 32 ∧ iv = .int .i64 (k : Int) ∧ v = .slice (some ⟨g9, 0, none⟩) m c9 ∧ Hid (m = 4 * k) ∧ Hid (wy.ownsRow w7.heap.size 5 1 (.slice (some ⟨g9, 0, none⟩) m c9) m ((outb (hs T) k).map B)) ∧ Hid (Below w7.heap.size w8 wy)) (fun _ iv _ => 8 - (intOf iv).toNat)
          case atStart => exact ⟨0, 0, _, _, by omega, by omega, rfl, rfl, Lib.hid rfl, HO8, HB8'⟩
          case round =>
            obtain ⟨k, m, g9, c9, hk8, hm32, rfl, rfl, hmk, ho9, hb9⟩ := hrel
            obtain ⟨wy, hwy⟩ : ∃ x, x = wr := ⟨_, rfl⟩
            rw [← hwy] at ho9 hb9 ⊢
            clear hwy
            have HSZ : Hid (w7.heap.size ≤ wy.heap.size) := Lib.hid (by have := hb9.out.size; have := HZ8.out; omega)
            by_cases hlt : k < 8
            · have c1 := run_index (P := Tryd.prog) wy Tryd.underlying122 (by kernel_rfl) (by kernel_rfl) hlt (by rw [List.getElem?_toArray]; exact cells_sw (hs T) k hlt)
              obtain ⟨x, hx⟩ : ∃ x, x = sw (hs T) k := ⟨_, rfl⟩
              rw [← hx] at c1
              have HXX := Lib.hid hx
              clear hx
              have hm28 : m ≤ 28 := by have := hmk.out; omega
              have HOO := Lib.hid (ho9.out.kept (World.grownBy_alloc wy (.cells #[B (x >>> 24).toUInt8, B (x >>> 16).toUInt8, B (x >>> 8).toUInt8, B x.toUInt8] 5) none) (by simp [Value.ownBlock]))
              have HBB := Lib.hid (hb9.out.alloc HSZ.out (.cells #[B (x >>> 24).toUInt8, B (x >>> 16).toUInt8, B (x >>> 8).toUInt8, B x.toUInt8] 5))
              have HBK : Hid (BS (wy.alloc (.cells #[B (x >>> 24).toUInt8, B (x >>> 16).toUInt8, B (x >>> 8).toUInt8, B x.toUInt8] 5)) (some ⟨wy.heap.size, 0, none⟩) 4 4 (bytes4 x)) := Lib.hid (BL.bs (l := bytes4 x) (BL.new wy 5 ((bytes4 x).map B)) rfl (by decide))
              have HSB : Hid (w7.heap.size ≤ (wy.alloc (.cells #[B (x >>> 24).toUInt8, B (x >>> 16).toUInt8, B (x >>> 8).toUInt8, B x.toUInt8] 5)).heap.size) := Lib.hid (by have := HSZ.out; simp; omega)
              go_wp2_with ((with_reducible show wpList _ _ _ (⟨some 64, _, _, _, _, _⟩ :: _) _ _); refine wpList_appB _ rfl (.tmp 51) (.tmp 63) rfl w7.heap.size _ m _ rfl HOO.out _ 4 4 (bytes4 x) rfl HBK.out (by omega) HSB.out ?_; intro v6 w6 hp)
              obtain ⟨g6, c6, rfl⟩ := hp.form (by omega)
              have HO6 : Hid (w6.ownsRow w7.heap.size 5 1 (.slice (some ⟨g6, 0, none⟩) (m + 4) c6) (m + 4) ((outb (hs T) (k + 1)).map B)) := Lib.hid (by have := hp.own; rw [outb, ← HXX.out]; exact this)
              have HB6 := Lib.hid (hp.below HOO.out HBB.out (Nat.le_refl _) HSB.out)
              clear hp c1
              go_wp2_with fail
              go_roundw
              case rel => exact ⟨k + 1, m + 4, _, _, by omega, by omega, by go_num, rfl, Lib.hid (by rw [hmk.out]; omega), HO6, HB6⟩
              case measure => simp [intOf]; omega
            · obtain rfl : k = 8 := by omega
              obtain ⟨A8, c8, e8, hb8⟩ := BS.of_own ho9.out (by have := hm32; unfold lim; omega)
              cases e8
              have cv := conv_str hb8
              go_wp2_with fail
              go_ret
              refine ⟨?_, ?_⟩
              · rw [HE.out, ← outb_all]; rfl
              · have k1 : Kp (fun _ => False) w w2 := Kp.of_below HB2.out
                have k3 : Below w.heap.size w w3 := (k1.after HC2.out (fun i hi e => by omega)).below (Nat.le_refl _) (fun _ h => h.elim)
                have k4 : Below w.heap.size w wx := below_thenB k3 (by have := HZ3.out; omega) hb5.out
                have k5 : Below w.heap.size w w7 := ((Kp.of_below (S := fun _ => False) k4).after HR2.out (fun i hi e => by omega)).below (Nat.le_refl _) (fun _ h => h.elim)
                have k6 : w.heap.size ≤ w7.heap.size := k5.size
                exact (k5.trans (HB8.out.mono k6)).trans (hb9.out.mono k6)
end Go.Proofs.YtgjgofjabdjclaaDoor
/- Contracts of sha256.Join and sha256.Sum. -/
namespace Go.Proofs.YtgjgofjabdjclaaDoor
open Go.RowKit Gf Sha

/-- Strings. -/
def TS (w : World) (A : Option Addr) (n c : Nat) (m : List (List UInt8)) : Prop :=
  m.length = n ∧ n ≤ c ∧ n * 16 ≤ lim ∧ Cells w A n (fun k => .string (strB (gR m k)))
theorem TS.kept {w w' : World} {A : Option Addr} {n c : Nat} {m : List (List UInt8)} (h : TS w A n c m) (hb : Below w.heap.size w w') : TS w' A n c m := ⟨h.1, h.2.1, h.2.2.1, h.2.2.2.kept hb⟩
theorem TS.drew {w : World} {A : Option Addr} {n c : Nat} {m : List (List UInt8)} (h : TS w A n c m) : TS w.drew A n c m := h
theorem TS.at_ {w w' : World} {A : Option Addr} {n c : Nat} {m : List (List UInt8)} (h : TS w A n c m) (hb : Below w.heap.size w w') {k : Nat} (hk : k < n) : ∃ g o, A = some ⟨g, o, none⟩ ∧ w'.cell? ⟨g, o + k, none⟩ = some (.string (strB (gR m k))) := (h.kept hb).2.2.2 k hk
theorem TS.nil {w : World} : TS w none 0 0 [] := ⟨rfl, Nat.le_refl _, by decide, fun k hk => absurd hk (by omega)⟩
theorem TS.of_blk {w : World} {g : Nat} {t : TypeId} {m : List (List UInt8)} (h : BL w g t (m.map fun l => .string (strB l))) {n : Nat} (hn : m.length = n) (hl : n * 16 ≤ lim) : TS w (some ⟨g, 0, none⟩) n n m :=
  ⟨hn, Nat.le_refl _, hl, fun k hk => ⟨g, 0, rfl, by
    rw [Nat.zero_add]
    refine h.get ?_
    rw [List.getElem?_map, List.getElem?_eq_getElem (by omega)]
    show some (Value.string _) = some (.string (strB (gR m k)))
    rw [gR_eq (by omega)]⟩⟩
theorem flat_take {m : List (List UInt8)} {k : Nat} (h : k < m.length) : (m.take (k + 1)).flatten = (m.take k).flatten ++ gR m k := by
  rw [List.take_succ_eq_append_getElem h, List.flatten_append, gR_eq h]; simp
theorem flat_le (m : List (List UInt8)) (k : Nat) : (m.take k).flatten.length ≤ m.flatten.length := by
  conv => rhs; rw [← List.take_append_drop k m]
  rw [List.flatten_append, List.length_append]; omega

set_option maxRecDepth 100000 in
set_option maxHeartbeats 1000000 in
theorem join_any (A : Option Addr) (n c : Nat) (m : List (List UInt8)) (w : World) (h : TS w A n c m) (hT : Tabs w) (hN : m.flatten.length ≤ 1125899906842624) (hL : ∀ k, k < n → (gR m k).length ≤ lim) :
    Calls Tryd.prog 97 #[.slice A n c] w fun e w' => e = .returned (.string (strB (sha m.flatten))) ∧ Below w.heap.size w w' := by
  have hn : n * 16 ≤ 140737488355328 := by have := h.2.2.1; unfold lim at this; omega
  have H := Lib.hid h
  have HT := Lib.hid hT
  have HN := Lib.hid hN
  have HL := Lib.hid hL
  have HS := Lib.hid hT.size
  clear h hT hN hL
  go_enter Tryd.func97, Tryd.ntmps97
  go_wp2_with (go_at_call 99; refine (new_any w HT.out).mono ?_; rintro e w1 ⟨rfl, b1, b2⟩; have HB1 := Lib.hid b1; have HB2 := Lib.hid b2; clear b1 b2)
  go_loopw [9] (fun i wr => ∃ k : Nat, k ≤ n ∧ i = .int .i64 (k : Int) ∧ Hid (Hs wr w.heap.size 142 [] (m.take k).flatten) ∧ Hid (Below w.heap.size w wr)) (fun i _ => n - (intOf i).toNat)
  case atStart => exact ⟨0, by omega, rfl, HB1, HB2⟩
  case round =>
    obtain ⟨k, hk, rfl, hh, hb⟩ := hrel
    by_cases hlt : k < n
    · obtain ⟨g, o, rfl, q1⟩ := H.out.at_ hb.out hlt
      obtain ⟨wx, hwx⟩ : ∃ x, x = wr := ⟨_, rfl⟩
      rw [← hwx] at hh hb q1 ⊢
      clear hwx
      have HLk : Hid ((gR m k).length ≤ lim) := Lib.hid (HL.out k hlt)
      have HLN : Hid ((m.take k).flatten.length + (gR m k).length ≤ 1152921504606846976) := Lib.hid (by
        have h1 := flat_le m (k + 1)
        rw [flat_take (by rw [H.out.1]; exact hlt), List.length_append] at h1
        have := HN.out
        omega)
      have HTk : Hid ((m.take (k + 1)).flatten = (m.take k).flatten ++ gR m k) := Lib.hid (flat_take (by rw [H.out.1]; exact hlt))
      go_wp2_with (first
        | ((with_reducible show wpList _ _ _ (⟨some 15, _, _, _, _, _⟩ :: _) _ _); refine wpList_convB _ rfl (.tmp 14) rfl (gR m k) rfl ?_; intro w2 cap hc; have HC := Lib.hid hc; clear hc)
        | (go_at_call 100; refine (write_any w.heap.size _ cap _ 142 (m.take k).flatten (gR m k) [] w2 (hh.out.kept HC.out.2.2.1) (HC.out.bs HLk.out) ((HT.out.kept hb.out).kept HC.out.2.2.1) HS.out (fun g' o' _ e e2 => by cases e; have := hh.out.lt; have e2 : wx.heap.size = w.heap.size := e2; omega) HLN.out).mono ?_; rintro e w3 ⟨rfl, r1, r2⟩; rw [← HTk.out] at r1; have HR1 := Lib.hid r1; have HR2 := Lib.hid r2; clear r1 r2))
      have HBE : Hid (Below w.heap.size w w3) := Lib.hid (((Kp.of_below (S := fun _ => False) (below_thenB hb.out hb.out.size HC.out.2.2.1)).after HR2.out (fun i hi e => by omega)).below (Nat.le_refl _) (fun _ h => h.elim))
      go_wp2_with fail
      go_roundw
      case rel => exact ⟨k + 1, by omega, by go_num, HR1, HBE⟩
      case measure => simp [intOf]; omega
    · obtain rfl : k = n := by omega
      have hh2 := hh.out
      rw [List.take_of_length_le (by rw [H.out.1]; exact Nat.le_refl _)] at hh2
      have HH2 := Lib.hid hh2
      clear hh2
      go_wp2_with (go_at_call 101; refine (sum_any w.heap.size 142 m.flatten [] wr HH2.out (HT.out.kept hb.out) HN.out).mono ?_; rintro e w3 ⟨rfl, r1⟩)
      go_ret
      exact ⟨rfl, below_thenB hb.out hb.out.size r1⟩

set_option maxHeartbeats 400000 in
theorem shasum_any (A : Option Addr) (n c : Nat) (l : List UInt8) (w : World) (h : BS w A n c l) (hT : Tabs w) :
    Calls Tryd.prog 95 #[.slice A n c] w fun e w' => e = .returned (.string (strB (sha l))) ∧ Below w.heap.size w w' := by
  have hn := h.len_le
  have H := Lib.hid h
  have HT := Lib.hid hT
  have HS := Lib.hid hT.size
  clear h hT
  have HN : Hid (([] : List UInt8).length + n ≤ 1152921504606846976) := Lib.hid (by simp; omega)
  have HN2 : Hid (l.length ≤ 1125899906842624) := Lib.hid (by rw [H.out.1]; omega)
  have HF : Hid (FarB A n (· = w.heap.size)) := Lib.hid (H.out.far_new (fun k e => by omega))
  go_enter Tryd.func95, Tryd.ntmps95
  go_wp2_with (first
    | (go_at_call 99; refine (new_any w HT.out).mono ?_; rintro e w1 ⟨rfl, b1, b2⟩; have HB1 := Lib.hid b1; have HB2 := Lib.hid b2; clear b1 b2)
    | (go_at_call 100; refine (write_any w.heap.size n c A 142 [] l [] w1 HB1.out (H.out.kept HB2.out) (HT.out.kept HB2.out) HS.out HF.out HN.out).mono ?_; rintro e w3 ⟨rfl, r1, r2⟩; rw [List.nil_append] at r1; have HR1 := Lib.hid r1; have HR2 := Lib.hid r2; clear r1 r2)
    | (go_at_call 101; refine (sum_any w.heap.size 142 l [] w3 HR1.out ((HT.out.kept HB2.out).kp HR2.out (by rintro k rfl; exact HS.out)) HN2.out).mono ?_; rintro e w4 ⟨rfl, r1⟩))
  go_ret
  have k1 : Below w.heap.size w w3 := ((Kp.of_below (S := fun _ => False) HB2.out).after HR2.out (fun i hi e => by omega)).below (Nat.le_refl _) (fun _ h => h.elim)
  exact ⟨rfl, below_thenB k1 k1.size r1⟩
end Go.Proofs.YtgjgofjabdjclaaDoor
/- Contract of the closure in hmac.New: a block of 64 bytes combined with a byte. -/
namespace Go.Proofs.YtgjgofjabdjclaaDoor
open Go.RowKit Gf Sha

/-- Bytes combined with a byte. -/
def xr (x : UInt8) (f : List UInt8) : List UInt8 := f.map fun b => b ^^^ x
theorem xr_length (x : UInt8) (f : List UInt8) : (xr x f).length = f.length := by simp [xr]
/-- The first k combined, the others 0. -/
def xpart (x : UInt8) (f : List UInt8) (k : Nat) : List UInt8 := xr x (f.take k) ++ List.replicate (f.length - k) 0
theorem xpart_zero (x : UInt8) (f : List UInt8) : xpart x f 0 = List.replicate f.length 0 := by simp [xpart, xr]
theorem xpart_all (x : UInt8) (f : List UInt8) : xpart x f f.length = xr x f := by simp [xpart]
theorem xpart_set (x : UInt8) (f : List UInt8) (k : Nat) (h : k < f.length) : (xpart x f k).set k (gB f k ^^^ x) = xpart x f (k + 1) := by
  have e : f.length - k = (f.length - (k + 1)) + 1 := by omega
  have hl : (xr x (f.take k)).length = k := by simp [xr]; omega
  unfold xpart
  rw [List.set_append, if_neg (by omega), hl, Nat.sub_self, e, List.replicate_succ, List.set_cons_zero, List.take_succ_eq_append_getElem h, xr, xr, List.map_append, List.append_assoc, gB_eq h]
  rfl
theorem map_set_B (l : List UInt8) (k : Nat) (b : UInt8) : (l.map B).set k (B b) = (l.set k b).map B := by rw [List.map_set]
theorem map_get_B (l : List UInt8) (k : Nat) (h : k < l.length) : (l.map B)[k]? = some (B (gB l k)) := by
  rw [List.getElem?_map, List.getElem?_eq_getElem h, gB_eq h]; rfl
theorem oneB (l : List UInt8) : ∀ v ∈ l.map B, v.oneCell' = true := by
  intro v hv
  obtain ⟨b, _, rfl⟩ := List.mem_map.1 hv
  rfl
theorem zero_arr : (Tryd.prog.info? 139).map (·.zero) = some (some (.agg ((List.replicate 64 (0 : UInt8)).map B).toArray)) := by kernel_rfl
attribute [local go_sem] Gf.xor_bits

set_option maxRecDepth 100000 in
set_option maxHeartbeats 1000000 in
theorem comb_any (x : UInt8) (gf : Nat) (t : TypeId) (f : List UInt8) (w : World) (h : BL w gf t (f.map B)) (hf : f.length = 64) :
    Calls Tryd.prog 98 #[B x, .pointer (some ⟨gf, 0, none⟩)] w fun e w' => e = .returned (.agg ((xr x f).map B).toArray) ∧ Below w.heap.size w w' := by
  have H := Lib.hid h
  have HF := Lib.hid hf
  clear h hf
  go_enter Tryd.func98, Tryd.ntmps98
  go_wp2_with (first
    | ((with_reducible show wpList _ _ _ (⟨some 3, _, _, _, _, _⟩ :: _) _ _); refine wpList_alloc _ rfl 139 rfl _ zero_arr ?_; intro w2 b1 b2 b3; have HB1 := Lib.hid b1; have HB2 := Lib.hid b2; clear b1 b2 b3)
    | ((with_reducible show wpList _ _ _ (⟨some 6, _, _, _, _, _⟩ :: _) _ _); refine wpList_loadv _ rfl 139 (.tmp 1) rfl 64 (by kernel_rfl) gf 0 (f.map B) rfl (BL.all (H.out.kept HB2.out)) (by rw [List.length_map]; exact HF.out) ?_))
  have HX0 : Hid (BL w2 w.heap.size 139 ((xpart x f 0).map B)) := Lib.hid (by rw [xpart_zero, HF.out]; exact HB1.out)
  go_loopw [7] (fun i wr => ∃ k : Nat, k ≤ 64 ∧ i = .int .i64 (k : Int) ∧ Hid (BL wr w.heap.size 139 ((xpart x f k).map B)) ∧ Hid (Below w.heap.size w wr)) (fun i _ => 64 - (intOf i).toNat)
  case atStart => exact ⟨0, by omega, rfl, HX0, HB2⟩
  case round =>
    obtain ⟨k, hk, rfl, hb, hw⟩ := hrel
    obtain ⟨wx, hwx⟩ : ∃ x, x = wr := ⟨_, rfl⟩
    rw [← hwx] at hb hw ⊢
    clear hwx
    by_cases hlt : k < 64
    · have hlf : k < f.length := by rw [HF.out]; exact hlt
      have c1 := run_index (P := Tryd.prog) wx Tryd.underlying139 (by kernel_rfl) (by kernel_rfl) hlt (by rw [List.getElem?_toArray]; exact map_get_B f k hlf)
      have HLF := Lib.hid hlf
      have c2 := hb.out.frozen k
      have c3 : wx.cell? ⟨w.heap.size, k, none⟩ = some (B (gB (xpart x f k) k)) := hb.out.get (map_get_B _ k (by simp [xpart, xr]; omega))
      have HB3 : Hid (BL (wx.setCell ⟨w.heap.size, k, none⟩ (B (gB f k ^^^ x))) w.heap.size 139 ((xpart x f (k + 1)).map B)) := Lib.hid (by
        have := hb.out.set_ k (B (gB f k ^^^ x))
        rw [map_set_B, xpart_set x f k HLF.out] at this
        exact this)
      have HW3 : Hid (Below w.heap.size w (wx.setCell ⟨w.heap.size, k, none⟩ (B (gB f k ^^^ x)))) := Lib.hid (hw.out.setCell (Nat.le_refl _) _)
      clear hlf
      go_wp2_with fail
      clear c1 c2 c3
      generalize wx.setCell ⟨w.heap.size, k, none⟩ (B (gB f k ^^^ x)) = w8 at HB3 HW3 ⊢
      go_wp2_with fail
      go_roundw
      case rel => exact ⟨k + 1, by omega, by go_num, HB3, HW3⟩
      case measure => simp [intOf]; omega
    · obtain rfl : k = 64 := by omega
      have hb2 := hb.out
      rw [← HF.out, xpart_all] at hb2
      have HB4 := Lib.hid hb2
      have HLX : Hid (((xr x f).map B).length = 64) := Lib.hid (by rw [List.length_map, xr_length]; exact HF.out)
      clear hb2
      go_wp2_with (first
        | ((with_reducible show wpList _ _ _ (⟨some 17, _, _, _, _, _⟩ :: _) _ _); refine wpList_loadv _ rfl 139 (.tmp 3) rfl 64 (by kernel_rfl) w.heap.size 0 ((xr x f).map B) rfl (BL.all HB4.out) HLX.out ?_)
        | ((with_reducible show wpList _ _ _ (⟨none, _, _, _, _, _⟩ :: _) _ _); refine wpList_storev _ rfl 139 (.tmp 3) (.tmp 17) rfl 64 (by kernel_rfl) w.heap.size 0 _ _ ((xr x f).map B) rfl rfl HB4.out HLX.out (oneB _) (by rw [HLX.out]; decide) ?_; intro w9 d1 d2 d3; rw [splice_all _ _ rfl] at d1))
      refine bodyPost_ret (results_at w9 Tryd.results98 (n := 64) (by kernel_rfl) (g := w.heap.size) (o := 0) rfl (BL.all d1) HLX.out) rfl ⟨rfl, ?_⟩
      exact ((Kp.of_below (S := fun _ => False) hw.out).after d2 (fun i hi e => by omega)).below (Nat.le_refl _) (fun _ h => h.elim)
end Go.Proofs.YtgjgofjabdjclaaDoor
