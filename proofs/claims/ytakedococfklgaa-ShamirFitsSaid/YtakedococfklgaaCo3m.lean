/- Contract of column.mark. -/
import Derived.Test.YtakedococfklgaaCo2m
namespace Go.Proofs.Ytakedococfklgaa
open Go.RowKit Gf

attribute [local go_sem] Gf.xor_bits Gf.and_bits Gf.or_bits Gf.ne_zero_iff Gf.eq_zero_iff Gf.eq_one_iff Gf.beq_bytes Gf.bne_bytes Gf.bv_toNat

def boR (l : List Bool) : Array Value := (l.map Value.bool).toArray
theorem gO_eq {l : List Bool} {k : Nat} (h : k < l.length) : gO l k = l[k] := by simp [gO, List.getD, List.getElem?_eq_getElem h]
theorem boR_get (l : List Bool) (k : Nat) (h : k < l.length) : (boR l)[k]? = some (.bool (gO l k)) := by
  rw [gO_eq h]; simp [boR, List.getElem?_eq_getElem h]
theorem boR_set (l : List Bool) (k : Nat) (b : Bool) : (boR l).setIfInBounds k (.bool b) = boR (l.set k b) := by
  simp [boR, List.map_set]
theorem WS.of_blk {w : World} {g n : Nat} {t : TypeId} {l : List Bool} (h : Blk w g t (boR l)) (hn : l.length = n) (hl : n ≤ lim) : WS w (some ⟨g, 0, none⟩) n n l :=
  ⟨hn, Nat.le_refl _, hl, fun k hk => ⟨g, 0, rfl, by rw [Nat.zero_add, h.cell]; exact boR_get l k (by omega)⟩⟩

/-- The polynomial that mark takes. -/
def mkP (xs ys : List UInt8) (wl : List Bool) (t most : Nat) : List UInt8 := if most < dsK xs ys (thP xs ys wl t) xs.length then Py.dcP xs ys t else thP xs ys wl t
def mkB (xs ys : List UInt8) (wl : List Bool) (t most : Nat) : Bool := !decide (t < (mkP xs ys wl t most).length) && !decide (most < dsK xs ys (mkP xs ys wl t most) xs.length)
/-- The marks after k rounds. -/
def mkK (xs ys p : List UInt8) (wl : List Bool) (k : Nat) : List Bool := (List.range wl.length).map fun i => if i < k then gO wl i || decide (Py.ev p (gB xs i) ≠ gB ys i) else gO wl i
theorem mkK_length (xs ys p : List UInt8) (wl : List Bool) (k : Nat) : (mkK xs ys p wl k).length = wl.length := by simp [mkK]
theorem mkK_get (xs ys p : List UInt8) (wl : List Bool) (k i : Nat) (h : i < wl.length) : gO (mkK xs ys p wl k) i = if i < k then gO wl i || decide (Py.ev p (gB xs i) ≠ gB ys i) else gO wl i := by
  rw [gO_eq (by rw [mkK_length]; exact h)]; simp [mkK]
theorem gO_ext {a b : List Bool} (hl : a.length = b.length) (h : ∀ k, k < a.length → gO a k = gO b k) : a = b := by
  apply List.ext_getElem hl
  intro i h1 h2
  have := h i h1
  rwa [gO_eq h1, gO_eq h2] at this
theorem mkK_zero (xs ys p : List UInt8) (wl : List Bool) : mkK xs ys p wl 0 = wl :=
  gO_ext (mkK_length _ _ _ _ _) (fun k hk => by rw [mkK_length] at hk; rw [mkK_get _ _ _ _ _ _ hk, if_neg (by omega)])
theorem mkK_same (xs ys p : List UInt8) (wl : List Bool) (k : Nat) (h : Py.ev p (gB xs k) = gB ys k) : mkK xs ys p wl (k + 1) = mkK xs ys p wl k :=
  gO_ext (by rw [mkK_length, mkK_length]) (fun i hi => by
    rw [mkK_length] at hi
    rw [mkK_get _ _ _ _ _ _ hi, mkK_get _ _ _ _ _ _ hi]
    by_cases e : i = k
    · subst e; rw [if_pos (by omega), if_neg (by omega)]; simp [h]
    · by_cases h2 : i < k
      · rw [if_pos (by omega), if_pos h2]
      · rw [if_neg (by omega), if_neg h2])
theorem mkK_set (xs ys p : List UInt8) (wl : List Bool) (k : Nat) (hk : k < wl.length) (h : Py.ev p (gB xs k) ≠ gB ys k) : (mkK xs ys p wl k).set k true = mkK xs ys p wl (k + 1) :=
  gO_ext (by rw [List.length_set, mkK_length, mkK_length]) (fun i hi => by
    rw [List.length_set, mkK_length] at hi
    rw [mkK_get _ _ _ _ _ _ hi]
    by_cases e : i = k
    · subst e
      rw [if_pos (by omega), gO, List.getD_eq_getElem?_getD, List.getElem?_set_self (by rw [mkK_length]; exact hi)]
      simp [h]
    · have : gO ((mkK xs ys p wl k).set k true) i = gO (mkK xs ys p wl k) i := by
        simp [gO, List.getD, List.getElem?_set_ne (fun e' => e e'.symm)]
      rw [this, mkK_get _ _ _ _ _ _ hi]
      by_cases h2 : i < k
      · rw [if_pos h2, if_pos (by omega)]
      · rw [if_neg h2, if_neg (by omega)])

def MarkRet (b : Bool) (gw : Nat) (t : TypeId) (l : List Bool) (w : World) (e : Ending) (w' : World) : Prop := e = .returned (.bool b) ∧ (b = true → Blk w' gw t (boR l)) ∧ Kp (· = gw) w w'

theorem Col.kp {w w' : World} {gc gw : Nat} {A A' : Option Addr} {n c c' t : Nat} {xs ys : List UInt8} (h : Col w gc A A' n c c' t xs ys) (hk : Kp (· = gw) w w') (hg : gc ≠ gw) (hA : AtB A (· ≠ gw)) (hA' : AtB A' (· ≠ gw)) : Col w' gc A A' n c c' t xs ys :=
  ⟨hk.cell h.c0 hg, hk.cell h.c1 hg, hk.cell h.c2 hg, far_kept h.b0 hk hA, far_kept h.b1 hk hA'⟩

set_option maxRecDepth 100000 in
set_option maxHeartbeats 2000000 in
theorem mark_any (gc gw : Nat) (A A' : Option Addr) (n c c' t most : Nat) (tw : TypeId) (xs ys : List UInt8) (wl : List Bool) (w : World) (h : Col w gc A A' n c c' t xs ys) (hw : Blk w gw tw (boR wl)) (hwl : wl.length = n) (hn : n ≤ 1000) (ht : t ≤ 1000) (hd : Py.Dst xs)
    (hgc : gc ≠ gw) (hA : AtB A (· ≠ gw)) (hA' : AtB A' (· ≠ gw)) :
    Calls Try.prog 47 #[.pointer (some ⟨gc, 0, none⟩), .slice (some ⟨gw, 0, none⟩) n n, .int .i64 (most : Int)] w (MarkRet (mkB xs ys wl t most) gw tw (mkK xs ys (mkP xs ys wl t most) wl n) w) := by
  have H := Lib.hid h
  have HW := Lib.hid hw
  have HWL := Lib.hid hwl
  have HLX := Lib.hid h.b0.1
  have HD := Lib.hid hd
  have hn2 : n ≤ 140737488355328 := by omega
  have HN := Lib.hid hn
  have HT := Lib.hid ht
  have hgw := hw.lt
  clear h hw hd hn ht hwl
  go_enter Try.func47, Try.ntmps47
  go_wp2_with fail
  refine (through_any gc A A' _ n c c' t n xs ys wl w H.out (WS.of_blk HW.out HWL.out (by unfold lim; omega)) HN.out HD.out).mono ?_
  rintro e w1 ⟨v1, rfl, A1, n1, c1, rfl, h11, h12, h13⟩
  have P1 := Lib.hid h11
  have P2 := Lib.hid h12
  have H1 := Lib.hid (H.out.kept h13)
  have B1 := Lib.hid h13
  clear h11 h12 h13
  have HP : Hid (mkP xs ys wl t most = if most < dsK xs ys (thP xs ys wl t) n then Py.dcP xs ys t else thP xs ys wl t) := Lib.hid (by rw [mkP, HLX.out])
  have HMB : Hid (mkB xs ys wl t most = (!decide (t < (mkP xs ys wl t most).length) && !decide (most < dsK xs ys (mkP xs ys wl t most) n))) := Lib.hid (by rw [mkB, HLX.out])
  obtain ⟨P, hP⟩ : ∃ P, P = mkP xs ys wl t most := ⟨_, rfl⟩
  rw [← hP] at HP HMB
  have HPE := Lib.hid hP
  obtain ⟨d1, hd1⟩ : ∃ d, d = dsK xs ys (thP xs ys wl t) n := ⟨_, rfl⟩
  have hdl1 : d1 ≤ n := by rw [hd1]; exact dsK_le _ _ _ _
  rw [← hd1] at HP
  have HD1 := Lib.hid (distance_any gc A A' A1 n c c' t n1 c1 xs ys _ w1 H1.out P1.out)
  rw [← hd1] at HD1
  clear hP hd1
  go_wp2_with fail
  refine HD1.out.mono ?_
  rintro e w2 ⟨rfl, m2, hm2⟩
  have H2 : Hid (Col w2 gc A A' n c c' t xs ys) := Lib.hid (by rw [hm2]; exact H1.out.drewN _)
  have B2 : Hid (Below w.heap.size w w2) := Lib.hid (by rw [hm2]; exact below_drewN B1.out _)
  have Q1 : Hid (BS w2 A1 n1 c1 (thP xs ys wl t)) := Lib.hid (by rw [hm2]; exact P1.out.drewN _)
  clear hm2 HD1 H1 B1 P1
  -- both ways meet: a polynomial in memory of its own
  by_cases hmd : most < d1
  case' pos =>
    have q : decide ((most : Int) < (d1 : Int)) = true := by simp; omega
    have q' : decide (most < d1) = true := by simpa using hmd
    have HPP : Hid (P = Py.dcP xs ys t) := Lib.hid (by rw [HP.out, if_pos hmd])
    go_wp2_with fail
    refine (decode_any gc A A' n c c' t xs ys w2 H2.out HN.out HT.out HD.out).mono ?_
    rintro e w3 ⟨v3, rfl, A3, n3, c3, rfl, h31, h32, h33⟩
    rw [← HPP.out] at h31
    have R1 := Lib.hid h31
    have R2' : Hid (AtB A3 (w.heap.size ≤ ·)) := Lib.hid (fun a e => Nat.le_trans B2.out.size (h32 a e))
    have H3 := Lib.hid (H2.out.kept h33)
    have B3 := Lib.hid (below_then B2.out h33)
    clear h31 h32 h33 q q' HPP H2 B2 Q1 P2
  case' neg =>
    have q : decide ((most : Int) < (d1 : Int)) = false := by simp; omega
    have q' : decide (most < d1) = false := by simpa using hmd
    have HPP : Hid (P = thP xs ys wl t) := Lib.hid (by rw [HP.out, if_neg hmd])
    obtain ⟨w3, rfl⟩ : ∃ w3, w3 = w2 := ⟨_, rfl⟩
    obtain ⟨A3, rfl⟩ : ∃ A3, A3 = A1 := ⟨_, rfl⟩
    obtain ⟨n3, rfl⟩ : ∃ n3, n3 = n1 := ⟨_, rfl⟩
    obtain ⟨c3, rfl⟩ : ∃ c3, c3 = c1 := ⟨_, rfl⟩
    have R1 : Hid (BS w3 A3 n3 c3 P) := Lib.hid (by rw [HPP.out]; exact Q1.out)
    have R2' := P2
    have H3 := H2
    have B3 := B2
    clear HPP H2 B2 Q1 P2
  all_goals
    have hn3 : n3 ≤ 140737488355328 := R1.out.len_le
    have HN3 : Hid (P.length = n3) := Lib.hid R1.out.1
    have cc2 := H3.out.c2
    obtain ⟨d2, hd2⟩ : ∃ d, d = dsK xs ys P n := ⟨_, rfl⟩
    have hdl2 : d2 ≤ n := by rw [hd2]; exact dsK_le _ _ _ _
    have HD2 := Lib.hid (distance_any gc A A' A3 n c c' t n3 c3 xs ys P w3 H3.out R1.out)
    rw [← hd2] at HD2 HMB
    clear hd2
    rw [HN3.out] at HMB
    by_cases htn : t < n3
    · have q1 : decide ((t : Int) < (n3 : Int)) = true := by simp; omega
      have q1' : decide (t < n3) = true := by simpa using htn
      have HF : Hid (mkB xs ys wl t most = false) := Lib.hid (by rw [HMB.out, q1']; rfl)
      go_wp2_with fail
      go_ret
      rw [HF.out]
      exact ⟨rfl, fun h => by (cases h), Kp.of_below B3.out⟩
    · have q1 : decide ((t : Int) < (n3 : Int)) = false := by simp; omega
      have q1' : decide (t < n3) = false := by simpa using htn
      go_wp2_with fail
      refine HD2.out.mono ?_
      rintro e w4 ⟨rfl, m4, hm4⟩
      have H4 : Hid (Col w4 gc A A' n c c' t xs ys) := Lib.hid (by rw [hm4]; exact H3.out.drewN _)
      have B4 : Hid (Below w.heap.size w w4) := Lib.hid (by rw [hm4]; exact below_drewN B3.out _)
      have S1 : Hid (BS w4 A3 n3 c3 P) := Lib.hid (by rw [hm4]; exact R1.out.drewN _)
      clear hm4 HD2 H3 B3 R1 cc2
      by_cases hmd2 : most < d2
      · have q2 : decide ((most : Int) < (d2 : Int)) = true := by simp; omega
        have q2' : decide (most < d2) = true := by simpa using hmd2
        have HF : Hid (mkB xs ys wl t most = false) := Lib.hid (by rw [HMB.out, q1', q2']; rfl)
        go_wp2_with fail
        go_ret
        rw [HF.out]
        exact ⟨rfl, fun h => by (cases h), Kp.of_below B4.out⟩
      · have q2 : decide ((most : Int) < (d2 : Int)) = false := by simp; omega
        have q2' : decide (most < d2) = false := by simpa using hmd2
        have HF : Hid (mkB xs ys wl t most = true) := Lib.hid (by rw [HMB.out, q1', q2']; rfl)
        have cc0 := H4.out.c0
        have BW4 : Hid (Blk w4 gw tw (boR (mkK xs ys P wl 0))) := Lib.hid (by rw [mkK_zero]; exact HW.out.kept B4.out)
        go_wp2_with fail
        clear cc0 q1 q1' q2 q2'
        go_loopw [39] (fun i wr => ∃ k : Nat, k ≤ n ∧ i = .int .i64 (k : Int) ∧ Hid (Blk wr gw tw (boR (mkK xs ys P wl k))) ∧ Hid (Kp (· = gw) w4 wr)) (fun i _ => n - (intOf i).toNat)
        case atStart => exact ⟨0, by omega, rfl, BW4, Lib.hid (Kp.refl _ _)⟩
        case round =>
          obtain ⟨k, hk, rfl, hbw, hkp⟩ := hrel
          by_cases hlt : k < n
          · have HCW := H4.out.kp hkp.out hgc hA hA'
            obtain ⟨gx, ox, rfl, hcx⟩ := HCW.b0.at_ (Below.refl _ _) hlt
            obtain ⟨gy, oy, rfl, hcy⟩ := HCW.b1.at_ (Below.refl _ _) hlt
            have cc1 := HCW.c1
            have T1 : Hid (BS wr A3 n3 c3 P) := Lib.hid (far_kept S1.out hkp.out (fun a e h9 => by have := R2'.out a e; omega))
            have hwc := hbw.out.cell k
            rw [boR_get _ _ (by rw [mkK_length, HWL.out]; exact hlt)] at hwc
            have hwf := hbw.out.frozen k
            clear HCW
            by_cases he : Py.ev P (gB xs k) = gB ys k
            · have q : (Py.ev P (gB xs k) != gB ys k) = false := by simpa using he
              have HS : Hid (Blk wr gw tw (boR (mkK xs ys P wl (k + 1)))) := Lib.hid (by rw [mkK_same _ _ _ _ _ he]; exact hbw.out)
              have HE := Lib.hid he
              clear he
              go_wp2_with fail
              go_quiet ((go_at_call 69; exact Calls.quiet_of (eval_any _ _ _ _ _ _ (T1.out.drewN _))))
              go_wp2_with fail
              go_roundw
              case rel => exact ⟨k + 1, by omega, by go_num, Lib.hid (HS.out.drewN _), Lib.hid (hkp.out.drewN _)⟩
              case measure => simp [intOf]; omega
            · have q : (Py.ev P (gB xs k) != gB ys k) = true := by simpa using he
              have HS : Hid (∀ m, Blk ((wr.drewN m).setCell ⟨gw, k, none⟩ (.bool true)) gw tw (boR (mkK xs ys P wl (k + 1)))) := Lib.hid (fun m => by
                have := (hbw.out.drewN m).set_ k (.bool true)
                rw [boR_set, mkK_set _ _ _ _ _ (by rw [HWL.out]; exact hlt) he] at this
                exact this)
              have HE := Lib.hid he
              clear he
              go_wp2_with fail
              go_quiet ((go_at_call 69; exact Calls.quiet_of (eval_any _ _ _ _ _ _ (T1.out.drewN _))))
              go_wp2_with fail
              go_roundw
              case rel => exact ⟨k + 1, by omega, by go_num, Lib.hid (HS.out _), Lib.hid ((hkp.out.drewN _).set (.inl rfl) _)⟩
              case measure => simp [intOf]; omega
          · obtain rfl : k = n := by omega
            go_wp2_with fail
            go_ret
            rw [HF.out]
            exact ⟨rfl, fun _ => (by rw [← HPE.out]; exact hbw.out), (Kp.of_below B4.out).trans hkp.out⟩
end Go.Proofs.Ytakedococfklgaa
