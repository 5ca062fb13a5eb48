/- Several texts in one: Mer4, Mer5. -/
import Derived.Test.YtgjgofjabdjclaaDoorA24
import Derived.Test.YtgjgofjabdjclaaDoorA23
import Derived.Test.YtgjgofjabdjclaaDoorA22
import Derived.Test.YtgjgofjabdjclaaDoorA13
import Derived.Test.YtgjgofjabdjclaaDoorA21
/- Contract of the reference's See; proofs (a block's number, data, path) as a list; Proven of the program and of the reference. -/
namespace Go.Proofs.YtgjgofjabdjclaaDoor
open Go Go.RowKit Gf Sha

set_option maxRecDepth 100000 in
set_option maxHeartbeats 2000000 in
theorem rsee_any (root x : List UInt8) (m : List (List UInt8)) (n size b k c nx cx : Nat) (A Ax : Option Addr) (w : World) (h : TS w A k c m) (hx : BS w Ax nx cx x) (hT : Tabs w)
    (h1 : 1 ≤ n) (hn : n < 9223372036854775808) (hs : 1 ≤ size) (hs2 : size < 9223372036854775808) (hb : b < (n - 1) / size + 1) (hq : (n - 1) / size + 1 ≤ 256) (hnx : nx ≤ 1000000) :
    Calls Tryd.prog 63 #[.string (strB root), .int .i64 (n : Int), .int .i64 (size : Int), .int .i64 (b : Int), .slice Ax nx cx, .slice A k c] w fun e w' => e = .returned (.bool (seeB root n size b x m)) ∧ Below w.heap.size w w' := by
  have hk : k * 16 ≤ 140737488355328 := by have := h.2.2.1; unfold lim at this; omega
  have H := Lib.hid h
  have HX := Lib.hid hx
  have HT := Lib.hid hT
  have hbs : b * size < n := by
    have h3 : b * size ≤ ((n - 1) / size) * size := Nat.mul_le_mul_right _ (by omega)
    have h4 := Nat.div_mul_le_self (n - 1) size
    omega
  obtain ⟨q, hqd⟩ : ∃ q, q = (n - 1) / size := ⟨_, rfl⟩
  obtain ⟨bs, hbsd⟩ : ∃ bs, bs = b * size := ⟨_, rfl⟩
  have em : (b : Int) * (size : Int) = (bs : Int) := by rw [hbsd, Int.natCast_mul]
  have eq : Int.tdiv ((n : Int) - 1) (size : Int) = (q : Int) := by
    rw [show (n : Int) - 1 = ((n - 1 : Nat) : Int) by omega, hqd]; rfl
  have ez : ((size : Int) == 0) = false := by simpa using (by omega : ¬ (size : Int) = 0)
  have hq1 : q < 256 := by rw [hqd]; omega
  have hbq : b ≤ q := by rw [hqd]; omega
  have HV : Hid (seeB root n size b x m = (decide (nx = min size (n - bs)) && verB (mleaf x) b (q + 1) m root)) := Lib.hid (by rw [seeB, ← hqd, ← hbsd, hx.1])
  rw [← hbsd] at hbs
  have HML := Lib.hid (mleaf_length x)
  have HNX := Lib.hid hnx
  clear hqd hbsd h hx hT hb hq hnx
  obtain ⟨q1, hq1d⟩ : ∃ q1, q1 = q + 1 := ⟨_, rfl⟩
  have ew1 := wrapI bs (by omega)
  have ew2 : IntKind.i64.wrap ((n : Int) - (bs : Int)) = (n : Int) - (bs : Int) := by
    rw [show (n : Int) - (bs : Int) = ((n - bs : Nat) : Int) by omega]; exact wrapI _ (by omega)
  have ew0 : IntKind.i64.wrap ((n : Int) - 1) = (n : Int) - 1 := by
    rw [show (n : Int) - 1 = ((n - 1 : Nat) : Int) by omega]; exact wrapI _ (by omega)
  have ewq := wrapI q (by omega)
  have ew3 : IntKind.i64.wrap ((q : Int) + 1) = (q1 : Int) := by
    rw [show (q : Int) + 1 = (q1 : Int) by omega]; exact wrapI _ (by omega)
  have HQ1 : Hid (b < q1 ∧ q1 ≤ 256) := Lib.hid (by omega)
  rw [← hq1d] at HV
  clear hq1d
  obtain ⟨ex, hex⟩ : ∃ ex, ex = min size (n - bs) := ⟨_, rfl⟩
  have emin : min (size : Int) ((n : Int) - (bs : Int)) = (ex : Int) := by omega
  rw [← hex] at HV
  clear hex
  by_cases hc : nx = ex
  · have HC := Lib.hid hc
    have e1 : ((nx : Int) == (ex : Int)) = true := by rw [hc]; simp
    clear hc
    go_enter Tryd.func63, Tryd.ntmps63
    go_wp2_with fail
    refine Text.wp_region_text (fun _ => True) [(0, 4), (1, 4), (2, 4), (3, 4), (4, 4), (5, 4), (6, 4), (7, 4), (8, 4), (9, 4), (10, 4), (11, 4), (13, 4), (14, 4), (15, 4), (16, 4), (17, 4), (18, 4), (19, 4), (20, 4), (12, 2), (21, 2), (22, 4), (23, 4)] (by kernel_rfl) (by kernel_rfl) (fun _ _ _ _ _ h => h) (trivial) ?_
    iterate 20 (refine Text.purek rfl rfl (fun K hK => ⟨_, fun w' => by go_simp <;> rfl, ?_⟩); go_simp; refine hK _ ?_; clear hK K)
    refine Text.effw rfl rfl (fun K hK => ?_)
    go_simp
    refine (rleaf_any Ax nx cx x _ HX.out.drew HNX.out).mono ?_
    rintro e w2 ⟨rfl, b2⟩
    have HB2 : Hid (Below w.heap.size w w2) := Lib.hid (below_ofDrew b2)
    refine hK _ _ trivial ?_
    clear hK K b2
    refine Text.effw rfl rfl (fun K hK => ?_)
    go_simp
    refine (rverify_any (mleaf x) root m b q1 k c A _ (H.out.kept HB2.out) (HT.out.kept HB2.out) HML.out HQ1.out.1 HQ1.out.2).mono ?_
    rintro e w3 ⟨rfl, b3⟩
    have HB3 := Lib.hid (below_then HB2.out b3)
    refine hK _ _ trivial ?_
    clear hK K b3
    iterate 2 (refine Text.purek rfl rfl (fun K hK => ⟨_, fun w' => by go_simp <;> rfl, ?_⟩); go_simp; refine hK _ ?_; clear hK K)
    refine Text.done ?_
    go_wp2_with fail
    go_ret
    exact ⟨ret_bool (by rw [HV.out, decide_eq_true HC.out]; rfl), HB3.out⟩
  · have HC := Lib.hid hc
    have e1 : ((nx : Int) == (ex : Int)) = false := by rw [beq_eq_false_iff_ne]; omega
    clear hc
    go_enter Tryd.func63, Tryd.ntmps63
    go_wp2_with fail
    refine Text.wp_region_text (fun _ => True) [(0, 4), (1, 4), (2, 4), (3, 4), (4, 4), (5, 4), (6, 4), (7, 4), (8, 4), (9, 4), (10, 4), (11, 4), (12, 4), (13, 4), (14, 4), (15, 4), (16, 4), (17, 4), (18, 4), (19, 4), (20, 4), (21, 4), (22, 4), (23, 4)] (by kernel_rfl) (by kernel_rfl) (fun _ _ _ _ _ h => h) (trivial) ?_
    iterate 11 (refine Text.purek rfl rfl (fun K hK => ⟨_, fun w' => by go_simp <;> rfl, ?_⟩); go_simp; refine hK _ ?_; clear hK K)
    iterate 11 (refine Text.skipk (.inr (.inr rfl)) rfl rfl (fun K hK => ?_); go_simp; refine hK _ ?_; clear hK K)
    iterate 2 (refine Text.purek rfl rfl (fun K hK => ⟨_, fun w' => by go_simp <;> rfl, ?_⟩); go_simp; refine hK _ ?_; clear hK K)
    refine Text.done ?_
    go_wp2_with fail
    go_ret
    exact ⟨ret_bool (by rw [HV.out, decide_eq_false HC.out]; rfl), (Below.refl _ _).drew⟩

structure Pf where
  b : Int
  x : List UInt8
  m : List (List UInt8)
/-- A proof's three cells. -/
def rPf : Rdg Pf := fun w cs p => ∃ A n c A' n' c', cs = [.int .i64 p.b, .slice A n c, .slice A' n' c'] ∧ BS w A n c p.x ∧ TS w A' n' c' p.m
theorem stay_pf : Stay rPf := fun _ _ _ _ ⟨A, n, c, A', n', c', e, h1, h2⟩ hb => ⟨A, n, c, A', n', c', e, h1.kept hb, h2.kept hb⟩
def pfZ : List Value := [.int .i64 0, .slice none 0 0, .slice none 0 0]
theorem pfZero : (Tryd.prog.info? 63).map (·.zero) = some (some (.agg pfZ.toArray)) := by kernel_rfl
theorem rpfZero : (Tryd.prog.info? 72).map (·.zero) = some (some (.agg pfZ.toArray)) := by kernel_rfl
theorem pf_one (z : Int) (A A' : Option Addr) (n c n' c' : Nat) : ∀ v ∈ ([.int .i64 z, .slice A n c, .slice A' n' c'] : List Value), v.oneCell' = true := by
  intro v hv
  simp only [List.mem_cons, List.not_mem_nil, or_false] at hv
  rcases hv with rfl | rfl | rfl <;> rfl
def gP (L : List Pf) (k : Nat) : Pf := L.getD k ⟨0, [], []⟩
theorem gP_eq {L : List Pf} {k : Nat} {x : Pf} (h : L[k]? = some x) : gP L k = x := by rw [gP, List.getD_eq_getElem?_getD, h]; rfl
/-- The k-th proof is that of the k-th spot. -/
def pfB (root : List UInt8) (n size : Nat) (S : List Int) (p : Pf) (k : Nat) : Bool := decide (p.b = gI S k) && seeB root n size (gI S k).toNat p.x p.m
def provL (root : List UInt8) (n size : Nat) (S : List Int) (L : List Pf) : Bool := decide (L.length = S.length) && (List.range L.length).all fun k => pfB root n size S (gP L k) k
theorem prov_len {root : List UInt8} {n size : Nat} {S : List Int} {L : List Pf} (h : L.length ≠ S.length) : provL root n size S L = false := by
  rw [provL, decide_eq_false h]; rfl
theorem prov_no {root : List UInt8} {n size : Nat} {S : List Int} {L : List Pf} {k : Nat} (hk : k < L.length) (h : pfB root n size S (gP L k) k = false) : provL root n size S L = false := by
  have : ((List.range L.length).all fun k => pfB root n size S (gP L k) k) = false := by
    rw [List.all_eq_false]; exact ⟨k, List.mem_range.2 hk, by rw [h]; simp⟩
  rw [provL, this, Bool.and_false]
theorem prov_yes {root : List UInt8} {n size : Nat} {S : List Int} {L : List Pf} (hl : L.length = S.length) (h : ∀ k, k < L.length → pfB root n size S (gP L k) k = true) : provL root n size S L = true := by
  rw [provL, decide_eq_true hl, Bool.true_and, List.all_eq_true]
  exact fun k hk => h k (List.mem_range.1 hk)
theorem at_get {w : World} {g o : Nat} {z : List Int} (h : At w g o (z.map (Value.int .i64))) {k : Nat} (hk : k < z.length) : w.cell? ⟨g, o + k, none⟩ = some (.int .i64 (gI z k)) := by
  refine h k _ ?_
  rw [List.getElem?_map, List.getElem?_eq_getElem hk, gI_eq hk]; rfl

set_option maxRecDepth 100000 in
set_option maxHeartbeats 4000000 in
theorem proven_any (root nl : List UInt8) (L : List Pf) (n size c N cp : Nat) (A : Option Addr) (w : World) (h : LS rPf 3 56 w A N cp L) (hT : Tabs w) (h1 : 1 ≤ n) (hn : n < 9223372036854775808) (hs : 1 ≤ size) (hs2 : size < 9223372036854775808)
    (hq : (n - 1) / size + 1 ≤ 256) (hv : spotB nl.length (((n - 1) / size + 1 : Nat) : Int) (c : Int) = true) (hX : ∀ k, k < N → (gP L k).x.length ≤ 1000000) :
    Calls Tryd.prog 34 #[.string (strB root), .int .i64 (n : Int), .int .i64 (size : Int), .string (strB nl), .int .i64 (c : Int), .slice A N cp] w fun e w' => e = .returned (.bool (provL root n size (spotsL nl ((n - 1) / size + 1) c) L)) ∧ Below w.heap.size w w' := by
  have hN : N * 56 ≤ 140737488355328 := by have := h.2.2.1; unfold lim at this; omega
  have H := Lib.hid h
  have HT := Lib.hid hT
  have HXX := Lib.hid hX
  have HLN := Lib.hid h.1
  have HR : Hid ((n : Int) - 1 = ((n - 1 : Nat) : Int)) := Lib.hid (by omega)
  obtain ⟨q0, hqd0⟩ : ∃ q, q = (n - 1) / size := ⟨_, rfl⟩
  rw [← hqd0] at hv hq ⊢
  have HQ0 := Lib.hid hqd0.symm
  obtain ⟨q, hqd⟩ : ∃ q, q = q0 + 1 := ⟨_, rfl⟩
  rw [← hqd] at hv hq ⊢
  have HQ : Hid ((n - 1) / size + 1 = q) := Lib.hid (by rw [hqd, hqd0])
  have eq1 : (q0 : Int) + 1 = (q : Int) := by omega
  obtain ⟨v1, v2, v3, v4, v5, v6⟩ := spotB_parts hv
  have hcq : c ≤ q := by omega
  have HV := Lib.hid hv
  have HSL : Hid ((spotsL nl q c).length = c) := Lib.hid (spotsL_length nl q c)
  have HM : Hid (∀ k, k < c → 0 ≤ gI (spotsL nl q c) k ∧ gI (spotsL nl q c) k < (q : Int)) := Lib.hid (fun k hk => by
    have hk' : k < (spotsL nl q c).length := by rw [spotsL_length]; exact hk
    rw [gI_eq hk']
    exact spotsL_mem hcq (List.getElem_mem hk'))
  have hc64 : c ≤ 64 := by omega
  have hc0 : 0 ≤ (c : Int) := by omega
  clear hqd0 hqd hv h hT hX v1 v2 v3 v4 v5 v6
  by_cases hNc : N = c
  · have e1 := len_neF hNc
    subst hNc
    have hb0 : 0 ≤ (N : Int) := by omega
    go_enter Tryd.func34, Tryd.ntmps34
    go_wp2_with (first
      | (go_at_call 61; refine (blocksOf_any n size _ h1 hn hs hs2).mono ?_; rintro e w1 ⟨rfl, hw⟩; rw [hw]; clear hw w1; rw [HQ.out])
      | (go_at_call 21; refine (spots_yes nl q N _ HT.out HV.out).mono ?_; rintro e w2 ⟨v, rfl, ⟨A', n', c', rfl⟩, o1, b2⟩; obtain ⟨A', c', e', _⟩ := (RW.of_own o1.2).1.form; obtain rfl := (Value.slice.inj e').2.1.symm; clear e'; have HB2 := Lib.hid b2; have HO2 := Lib.hid (RW.of_own o1.2).1; clear o1 b2))
    go_loopw [43] (fun iv wr => ∃ k : Nat, k ≤ N ∧ iv = .int .i64 (k : Int) ∧ Hid (∀ j, j < k → pfB root n size (spotsL nl q N) (gP L j) j = true) ∧ Hid (Below w2.heap.size w2 wr)) (fun iv _ => N - (intOf iv).toNat)
    case atStart => exact ⟨0, by omega, rfl, Lib.hid (fun j hj => absurd hj (by omega)), Lib.hid (Below.refl _ _)⟩
    case round =>
      obtain ⟨k, hk, rfl, hall, hx⟩ := hrel
      obtain ⟨wx, hwx⟩ : ∃ x, x = wr := ⟨_, rfl⟩
      rw [← hwx] at hx ⊢
      clear hwx
      have HBx := Lib.hid (below_thenB HB2.out HB2.out.size hx.out)
      by_cases hlt : k < N
      · obtain ⟨p, g, o, cs, hp, rfl, hat, A1, n1, c1, A2, n2, c2, rfl, hb1, hb2⟩ := H.out.at_ stay_pf HBx.out hlt
        have HP : Hid (gP L k = p) := Lib.hid (gP_eq hp)
        have HA := Lib.hid hat
        have HB1 := Lib.hid hb1
        have HM1 := Lib.hid hb2
        have HXN : Hid (n1 ≤ 1000000) := Lib.hid (by have := HXX.out k hlt; rw [HP.out, hb1.1] at this; exact this)
        obtain ⟨gs, os, cs', es, _, hats⟩ := (HO2.out.kept hx.out).at_ (by omega)
        cases es
        have q5 := at_get hats (k := k) (by rw [HSL.out]; exact hlt)
        obtain ⟨S, hS⟩ : ∃ S, S = spotsL nl q N := ⟨_, rfl⟩
        have HMk : Hid (0 ≤ gI S k ∧ gI S k < (q : Int)) := Lib.hid (by rw [hS]; exact HM.out k hlt)
        rw [← hS] at q5 hall
        have HSE := Lib.hid hS.symm
        have HLK : Hid (k < L.length) := Lib.hid (by rw [HLN.out]; exact hlt)
        clear hat hats hp hb1 hb2 hS
        go_wp2_with (first
          | ((with_reducible show wpList _ _ _ (⟨some 47, _, _, _, _, _⟩ :: _) _ _); refine wpList_loadv _ rfl 63 (.tmp 46) rfl 3 (by kernel_rfl) g (o + k * 3) [.int .i64 p.b, .slice A1 n1 c1, .slice A2 n2 c2] (by go_simp) HA.out rfl ?_)
          | ((with_reducible show wpList _ _ _ (⟨some 16, _, _, _, _, _⟩ :: _) _ _); refine wpList_alloc _ rfl 63 rfl pfZ pfZero ?_; intro w3 a1 a2 a3; have HV3 := Lib.hid a1; have HX3 := Lib.hid a2; clear a1 a2 a3)
          | ((with_reducible show wpList _ _ _ (⟨none, _, _, _, _, _⟩ :: _) _ _); refine wpList_storev _ rfl 63 (.tmp 16) (.tmp 47) rfl 3 (by kernel_rfl) wx.heap.size 0 _ pfZ [.int .i64 p.b, .slice A1 n1 c1, .slice A2 n2 c2] rfl rfl HV3.out rfl (pf_one _ _ _ _ _ _ _) (by decide) ?_; intro w4 a1 a2 a3; have HV4 : Hid (BL w4 wx.heap.size 63 [.int .i64 p.b, .slice A1 n1 c1, .slice A2 n2 c2]) := Lib.hid a1; have HX4 : Hid (Below wx.heap.size wx w4) := Lib.hid (((Kp.of_below (S := fun _ => False) HX3.out).after a2 (fun i hi e => by omega)).below (Nat.le_refl _) (fun _ h => h.elim)); clear a1 a2 a3))
        have q0 := HV4.out.get (j := 0) rfl
        have q1 := HV4.out.get (j := 1) rfl
        have q2 := HV4.out.get (j := 2) rfl
        have q6 := cell_kept HX4.out q5
        have HX4' := Lib.hid (below_thenB hx.out hx.out.size HX4.out)
        have HB4 := Lib.hid (below_thenB HB2.out HB2.out.size HX4'.out)
        clear HV3 HX3 HV4 q5
        by_cases hbs : p.b = gI S k
        · obtain ⟨z, hz⟩ := Int.eq_ofNat_of_zero_le HMk.out.1
          have hzq : z < q := by have := HMk.out.2; omega
          have HZ : Hid ((gI S k).toNat = z) := Lib.hid (by omega)
          have HPB : Hid (p.b = gI S k) := Lib.hid hbs
          rw [hbs, hz] at q0
          rw [hz] at q6
          have e9 : ((z : Int) != (z : Int)) = false := by simp
          have HPF : Hid (pfB root n size S p k = seeB root n size z p.x p.m) := Lib.hid (by rw [pfB, decide_eq_true hbs, HZ.out]; rfl)
          clear hbs hz HA
          refine Text.wp_region_text (fun _ => True) [(0, 4), (2, 4), (3, 4), (4, 4), (1, 1), (5, 1), (6, 4), (7, 4), (8, 4), (9, 4), (10, 4), (11, 4), (13, 4), (15, 4), (12, 1), (14, 1), (16, 1), (17, 2), (18, 4), (19, 4)] (by kernel_rfl) (by kernel_rfl) (fun _ _ _ _ _ h => h) (trivial) ?_
          iterate 4 (refine Text.purek rfl rfl (fun K hK => ⟨_, fun w' => by go_simp <;> rfl, ?_⟩); go_simp; refine hK _ ?_; clear hK K)
          iterate 2 (refine Text.readk rfl rfl (fun K hK => ⟨_, by go_simp <;> rfl, ?_⟩); go_simp; refine hK _ ?_; clear hK K)
          iterate 8 (refine Text.purek rfl rfl (fun K hK => ⟨_, fun w' => by go_simp <;> rfl, ?_⟩); go_simp; refine hK _ ?_; clear hK K)
          iterate 3 (refine Text.readk rfl rfl (fun K hK => ⟨_, by go_simp <;> rfl, ?_⟩); go_simp; refine hK _ ?_; clear hK K)
          refine Text.effw rfl rfl (fun K hK => ?_)
          go_simp
          refine (see_any root p.x p.m n size z n2 c2 n1 c1 A2 A1 _ ((HM1.out.kept HX4.out).drew) ((HB1.out.kept HX4.out).drew) ((HT.out.kept HB4.out).drew) h1 hn hs hs2 (by rw [HQ.out]; exact hzq) (by rw [HQ.out]; exact hq)).mono ?_
          rintro e w5 ⟨rfl, b5⟩
          have HX5 : Hid (Below w2.heap.size w2 w5) := Lib.hid (below_thenB HX4'.out HX4'.out.size (below_ofDrew b5))
          refine hK _ _ trivial ?_
          clear hK K b5
          cases hsee : seeB root n size z p.x p.m with
          | true =>
            have HF : Hid (pfB root n size (spotsL nl q N) (gP L k) k = true) := Lib.hid (by rw [HP.out, HSE.out, HPF.out, hsee])
            iterate 2 (refine Text.purek rfl rfl (fun K hK => ⟨_, fun w' => by go_simp <;> rfl, ?_⟩); go_simp; refine hK _ ?_; clear hK K)
            refine Text.done ?_
            go_wp2_with fail
            go_roundw
            case rel => exact ⟨k + 1, by omega, by go_num, Lib.hid (fun j hj => by
              rcases Nat.lt_succ_iff_lt_or_eq.1 hj with h | rfl
              · rw [HSE.out]; exact hall.out j h
              · exact HF.out), HX5⟩
            case measure => simp [intOf]; omega
          | false =>
            have HF : Hid (pfB root n size (spotsL nl q N) (gP L k) k = false) := Lib.hid (by rw [HP.out, HSE.out, HPF.out, hsee])
            iterate 2 (refine Text.purek rfl rfl (fun K hK => ⟨_, fun w' => by go_simp <;> rfl, ?_⟩); go_simp; refine hK _ ?_; clear hK K)
            refine Text.done ?_
            go_wp2_with fail
            go_ret
            exact ⟨ret_bool (prov_no HLK.out HF.out).symm, below_thenB HB2.out HB2.out.size HX5.out⟩
        · have HF : Hid (pfB root n size (spotsL nl q N) (gP L k) k = false) := Lib.hid (by rw [HP.out, HSE.out, pfB, decide_eq_false hbs]; rfl)
          have e9 : (p.b != gI S k) = true := by simpa using hbs
          clear hbs
          refine Text.wp_region_text (fun _ => True) [(0, 4), (2, 4), (3, 4), (4, 4), (1, 1), (5, 1), (6, 4), (7, 4), (8, 4), (9, 4), (10, 4), (11, 4), (12, 4), (13, 4), (14, 4), (15, 4), (16, 4), (17, 4), (18, 4), (19, 4)] (by kernel_rfl) (by kernel_rfl) (fun _ _ _ _ _ h => h) (trivial) ?_
          iterate 4 (refine Text.purek rfl rfl (fun K hK => ⟨_, fun w' => by go_simp <;> rfl, ?_⟩); go_simp; refine hK _ ?_; clear hK K)
          iterate 2 (refine Text.readk rfl rfl (fun K hK => ⟨_, by go_simp <;> rfl, ?_⟩); go_simp; refine hK _ ?_; clear hK K)
          iterate 2 (refine Text.purek rfl rfl (fun K hK => ⟨_, fun w' => by go_simp <;> rfl, ?_⟩); go_simp; refine hK _ ?_; clear hK K)
          iterate 11 (refine Text.skipk (.inr (.inr rfl)) rfl rfl (fun K hK => ?_); go_simp; refine hK _ ?_; clear hK K)
          (refine Text.purek rfl rfl (fun K hK => ⟨_, fun w' => by go_simp <;> rfl, ?_⟩); go_simp; refine hK _ ?_; clear hK K)
          refine Text.done ?_
          go_wp2_with fail
          go_ret
          exact ⟨ret_bool (prov_no HLK.out HF.out).symm, HB4.out.drew⟩
      · obtain rfl : k = N := by omega
        have HY : Hid (provL root n size (spotsL nl q k) L = true) := Lib.hid (prov_yes (by rw [HLN.out, HSL.out]) (fun j hj => hall.out j (by rw [HLN.out] at hj; exact hj)))
        go_wp2_with fail
        go_ret
        exact ⟨ret_bool HY.out.symm, HBx.out⟩
  · have e1 := len_ne hNc
    have HF : Hid (provL root n size (spotsL nl q c) L = false) := Lib.hid (prov_len (by rw [HLN.out, HSL.out]; exact hNc))
    have hc00 : 0 ≤ (c : Int) := by omega
    clear hNc
    go_enter Tryd.func34, Tryd.ntmps34
    go_wp2_with (first
      | (go_at_call 61; refine (blocksOf_any n size _ h1 hn hs hs2).mono ?_; rintro e w1 ⟨rfl, hw⟩; rw [hw]; clear hw w1; rw [HQ.out])
      | (go_at_call 21; refine (spots_yes nl q c _ HT.out HV.out).mono ?_; rintro e w2 ⟨v, rfl, ⟨A', n', c', rfl⟩, o1, b2⟩; obtain ⟨A', c', e', _⟩ := (RW.of_own o1.2).1.form; obtain rfl := (Value.slice.inj e').2.1.symm; clear e'; have HB2 := Lib.hid b2; clear o1 b2))
    go_ret
    exact ⟨ret_bool HF.out.symm, HB2.out⟩
set_option maxRecDepth 100000 in
set_option maxHeartbeats 4000000 in
theorem rproven_any (root nl : List UInt8) (L : List Pf) (n size c N cp : Nat) (A : Option Addr) (w : World) (h : LS rPf 3 56 w A N cp L) (hT : Tabs w) (h1 : 1 ≤ n) (hn : n < 9223372036854775808) (hs : 1 ≤ size) (hs2 : size < 9223372036854775808)
    (hq : (n - 1) / size + 1 ≤ 256) (hv : spotB nl.length (((n - 1) / size + 1 : Nat) : Int) (c : Int) = true) (hX : ∀ k, k < N → (gP L k).x.length ≤ 1000000) :
    Calls Tryd.prog 35 #[.string (strB root), .int .i64 (n : Int), .int .i64 (size : Int), .string (strB nl), .int .i64 (c : Int), .slice A N cp] w fun e w' => e = .returned (.bool (provL root n size (spotsL nl ((n - 1) / size + 1) c) L)) ∧ Below w.heap.size w w' := by
  have hN : N * 56 ≤ 140737488355328 := by have := h.2.2.1; unfold lim at this; omega
  have H := Lib.hid h
  have HT := Lib.hid hT
  have HXX := Lib.hid hX
  have HLN := Lib.hid h.1
  have HR : Hid ((n : Int) - 1 = ((n - 1 : Nat) : Int)) := Lib.hid (by omega)
  obtain ⟨q0, hqd0⟩ : ∃ q, q = (n - 1) / size := ⟨_, rfl⟩
  rw [← hqd0] at hv hq ⊢
  have HQ0 := Lib.hid hqd0.symm
  obtain ⟨q, hqd⟩ : ∃ q, q = q0 + 1 := ⟨_, rfl⟩
  rw [← hqd] at hv hq ⊢
  have HQ : Hid ((n - 1) / size + 1 = q) := Lib.hid (by rw [hqd, hqd0])
  have eq1 : (q0 : Int) + 1 = (q : Int) := by omega
  obtain ⟨v1, v2, v3, v4, v5, v6⟩ := spotB_parts hv
  have hcq : c ≤ q := by omega
  have HV := Lib.hid hv
  have HSL : Hid ((spotsL nl q c).length = c) := Lib.hid (spotsL_length nl q c)
  have HM : Hid (∀ k, k < c → 0 ≤ gI (spotsL nl q c) k ∧ gI (spotsL nl q c) k < (q : Int)) := Lib.hid (fun k hk => by
    have hk' : k < (spotsL nl q c).length := by rw [spotsL_length]; exact hk
    rw [gI_eq hk']
    exact spotsL_mem hcq (List.getElem_mem hk'))
  have hc64 : c ≤ 64 := by omega
  have hc0 : 0 ≤ (c : Int) := by omega
  clear hqd0 hqd hv h hT hX v1 v2 v3 v4 v5 v6
  by_cases hNc : N = c
  · have e1 := len_neF hNc
    subst hNc
    have hb0 : 0 ≤ (N : Int) := by omega
    go_enter Tryd.func35, Tryd.ntmps35
    go_wp2_with (first
      | ((with_reducible show wpList _ _ _ (⟨some 28, _, _, _, _, _⟩ :: _) _ _); refine wpList_quoN _ rfl (.tmp 26) (.tmp 27) _ _ rfl (n - 1) size _ _ rfl rfl HR.out rfl (by omega) (by omega) ?_; rw [HQ0.out])
      | (go_at_call 22; refine (rspots_yes nl q N _ HV.out).mono ?_; rintro e w2 ⟨v, rfl, ⟨A', n', c', rfl⟩, o1, b2⟩; obtain ⟨A', c', e', _⟩ := (RW.of_own o1.2).1.form; obtain rfl := (Value.slice.inj e').2.1.symm; clear e'; have HB2 := Lib.hid b2; have HO2 := Lib.hid (RW.of_own o1.2).1; clear o1 b2))
    go_loopw [45] (fun iv wr => ∃ k : Nat, k ≤ N ∧ iv = .int .i64 (k : Int) ∧ Hid (∀ j, j < k → pfB root n size (spotsL nl q N) (gP L j) j = true) ∧ Hid (Below w2.heap.size w2 wr)) (fun iv _ => N - (intOf iv).toNat)
    case atStart => exact ⟨0, by omega, rfl, Lib.hid (fun j hj => absurd hj (by omega)), Lib.hid (Below.refl _ _)⟩
    case round =>
      obtain ⟨k, hk, rfl, hall, hx⟩ := hrel
      obtain ⟨wx, hwx⟩ : ∃ x, x = wr := ⟨_, rfl⟩
      rw [← hwx] at hx ⊢
      clear hwx
      have HBx := Lib.hid (below_thenB HB2.out HB2.out.size hx.out)
      by_cases hlt : k < N
      · obtain ⟨p, g, o, cs, hp, rfl, hat, A1, n1, c1, A2, n2, c2, rfl, hb1, hb2⟩ := H.out.at_ stay_pf HBx.out hlt
        have HP : Hid (gP L k = p) := Lib.hid (gP_eq hp)
        have HA := Lib.hid hat
        have HB1 := Lib.hid hb1
        have HM1 := Lib.hid hb2
        have HXN : Hid (n1 ≤ 1000000) := Lib.hid (by have := HXX.out k hlt; rw [HP.out, hb1.1] at this; exact this)
        obtain ⟨gs, os, cs', es, _, hats⟩ := (HO2.out.kept hx.out).at_ (by omega)
        cases es
        have q5 := at_get hats (k := k) (by rw [HSL.out]; exact hlt)
        obtain ⟨S, hS⟩ : ∃ S, S = spotsL nl q N := ⟨_, rfl⟩
        have HMk : Hid (0 ≤ gI S k ∧ gI S k < (q : Int)) := Lib.hid (by rw [hS]; exact HM.out k hlt)
        rw [← hS] at q5 hall
        have HSE := Lib.hid hS.symm
        have HLK : Hid (k < L.length) := Lib.hid (by rw [HLN.out]; exact hlt)
        clear hat hats hp hb1 hb2 hS
        go_wp2_with (first
          | ((with_reducible show wpList _ _ _ (⟨some 49, _, _, _, _, _⟩ :: _) _ _); refine wpList_loadv _ rfl 72 (.tmp 48) rfl 3 (by kernel_rfl) g (o + k * 3) [.int .i64 p.b, .slice A1 n1 c1, .slice A2 n2 c2] (by go_simp) HA.out rfl ?_)
          | ((with_reducible show wpList _ _ _ (⟨some 16, _, _, _, _, _⟩ :: _) _ _); refine wpList_alloc _ rfl 72 rfl pfZ rpfZero ?_; intro w3 a1 a2 a3; have HV3 := Lib.hid a1; have HX3 := Lib.hid a2; clear a1 a2 a3)
          | ((with_reducible show wpList _ _ _ (⟨none, _, _, _, _, _⟩ :: _) _ _); refine wpList_storev _ rfl 72 (.tmp 16) (.tmp 49) rfl 3 (by kernel_rfl) wx.heap.size 0 _ pfZ [.int .i64 p.b, .slice A1 n1 c1, .slice A2 n2 c2] rfl rfl HV3.out rfl (pf_one _ _ _ _ _ _ _) (by decide) ?_; intro w4 a1 a2 a3; have HV4 : Hid (BL w4 wx.heap.size 72 [.int .i64 p.b, .slice A1 n1 c1, .slice A2 n2 c2]) := Lib.hid a1; have HX4 : Hid (Below wx.heap.size wx w4) := Lib.hid (((Kp.of_below (S := fun _ => False) HX3.out).after a2 (fun i hi e => by omega)).below (Nat.le_refl _) (fun _ h => h.elim)); clear a1 a2 a3))
        have q0 := HV4.out.get (j := 0) rfl
        have q1 := HV4.out.get (j := 1) rfl
        have q2 := HV4.out.get (j := 2) rfl
        have q6 := cell_kept HX4.out q5
        have HX4' := Lib.hid (below_thenB hx.out hx.out.size HX4.out)
        have HB4 := Lib.hid (below_thenB HB2.out HB2.out.size HX4'.out)
        clear HV3 HX3 HV4 q5
        by_cases hbs : p.b = gI S k
        · obtain ⟨z, hz⟩ := Int.eq_ofNat_of_zero_le HMk.out.1
          have hzq : z < q := by have := HMk.out.2; omega
          have HZ : Hid ((gI S k).toNat = z) := Lib.hid (by omega)
          have HPB : Hid (p.b = gI S k) := Lib.hid hbs
          rw [hbs, hz] at q0
          rw [hz] at q6
          have e9 : ((z : Int) != (z : Int)) = false := by simp
          have HPF : Hid (pfB root n size S p k = seeB root n size z p.x p.m) := Lib.hid (by rw [pfB, decide_eq_true hbs, HZ.out]; rfl)
          clear hbs hz HA
          refine Text.wp_region_text (fun _ => True) [(0, 4), (2, 4), (3, 4), (4, 4), (1, 1), (5, 1), (6, 4), (7, 4), (8, 4), (9, 4), (10, 4), (11, 4), (13, 4), (15, 4), (12, 1), (14, 1), (16, 1), (17, 2), (18, 4), (19, 4)] (by kernel_rfl) (by kernel_rfl) (fun _ _ _ _ _ h => h) (trivial) ?_
          iterate 4 (refine Text.purek rfl rfl (fun K hK => ⟨_, fun w' => by go_simp <;> rfl, ?_⟩); go_simp; refine hK _ ?_; clear hK K)
          iterate 2 (refine Text.readk rfl rfl (fun K hK => ⟨_, by go_simp <;> rfl, ?_⟩); go_simp; refine hK _ ?_; clear hK K)
          iterate 8 (refine Text.purek rfl rfl (fun K hK => ⟨_, fun w' => by go_simp <;> rfl, ?_⟩); go_simp; refine hK _ ?_; clear hK K)
          iterate 3 (refine Text.readk rfl rfl (fun K hK => ⟨_, by go_simp <;> rfl, ?_⟩); go_simp; refine hK _ ?_; clear hK K)
          refine Text.effw rfl rfl (fun K hK => ?_)
          go_simp
          refine (rsee_any root p.x p.m n size z n2 c2 n1 c1 A2 A1 _ ((HM1.out.kept HX4.out).drew) ((HB1.out.kept HX4.out).drew) ((HT.out.kept HB4.out).drew) h1 hn hs hs2 (by rw [HQ.out]; exact hzq) (by rw [HQ.out]; exact hq) HXN.out).mono ?_
          rintro e w5 ⟨rfl, b5⟩
          have HX5 : Hid (Below w2.heap.size w2 w5) := Lib.hid (below_thenB HX4'.out HX4'.out.size (below_ofDrew b5))
          refine hK _ _ trivial ?_
          clear hK K b5
          cases hsee : seeB root n size z p.x p.m with
          | true =>
            have HF : Hid (pfB root n size (spotsL nl q N) (gP L k) k = true) := Lib.hid (by rw [HP.out, HSE.out, HPF.out, hsee])
            iterate 2 (refine Text.purek rfl rfl (fun K hK => ⟨_, fun w' => by go_simp <;> rfl, ?_⟩); go_simp; refine hK _ ?_; clear hK K)
            refine Text.done ?_
            go_wp2_with fail
            go_roundw
            case rel => exact ⟨k + 1, by omega, by go_num, Lib.hid (fun j hj => by
              rcases Nat.lt_succ_iff_lt_or_eq.1 hj with h | rfl
              · rw [HSE.out]; exact hall.out j h
              · exact HF.out), HX5⟩
            case measure => simp [intOf]; omega
          | false =>
            have HF : Hid (pfB root n size (spotsL nl q N) (gP L k) k = false) := Lib.hid (by rw [HP.out, HSE.out, HPF.out, hsee])
            iterate 2 (refine Text.purek rfl rfl (fun K hK => ⟨_, fun w' => by go_simp <;> rfl, ?_⟩); go_simp; refine hK _ ?_; clear hK K)
            refine Text.done ?_
            go_wp2_with fail
            go_ret
            exact ⟨ret_bool (prov_no HLK.out HF.out).symm, below_thenB HB2.out HB2.out.size HX5.out⟩
        · have HF : Hid (pfB root n size (spotsL nl q N) (gP L k) k = false) := Lib.hid (by rw [HP.out, HSE.out, pfB, decide_eq_false hbs]; rfl)
          have e9 : (p.b != gI S k) = true := by simpa using hbs
          clear hbs
          refine Text.wp_region_text (fun _ => True) [(0, 4), (2, 4), (3, 4), (4, 4), (1, 1), (5, 1), (6, 4), (7, 4), (8, 4), (9, 4), (10, 4), (11, 4), (12, 4), (13, 4), (14, 4), (15, 4), (16, 4), (17, 4), (18, 4), (19, 4)] (by kernel_rfl) (by kernel_rfl) (fun _ _ _ _ _ h => h) (trivial) ?_
          iterate 4 (refine Text.purek rfl rfl (fun K hK => ⟨_, fun w' => by go_simp <;> rfl, ?_⟩); go_simp; refine hK _ ?_; clear hK K)
          iterate 2 (refine Text.readk rfl rfl (fun K hK => ⟨_, by go_simp <;> rfl, ?_⟩); go_simp; refine hK _ ?_; clear hK K)
          iterate 2 (refine Text.purek rfl rfl (fun K hK => ⟨_, fun w' => by go_simp <;> rfl, ?_⟩); go_simp; refine hK _ ?_; clear hK K)
          iterate 11 (refine Text.skipk (.inr (.inr rfl)) rfl rfl (fun K hK => ?_); go_simp; refine hK _ ?_; clear hK K)
          (refine Text.purek rfl rfl (fun K hK => ⟨_, fun w' => by go_simp <;> rfl, ?_⟩); go_simp; refine hK _ ?_; clear hK K)
          refine Text.done ?_
          go_wp2_with fail
          go_ret
          exact ⟨ret_bool (prov_no HLK.out HF.out).symm, HB4.out.drew⟩
      · obtain rfl : k = N := by omega
        have HY : Hid (provL root n size (spotsL nl q k) L = true) := Lib.hid (prov_yes (by rw [HLN.out, HSL.out]) (fun j hj => hall.out j (by rw [HLN.out] at hj; exact hj)))
        go_wp2_with fail
        go_ret
        exact ⟨ret_bool HY.out.symm, HBx.out⟩
  · have e1 := len_ne hNc
    have HF : Hid (provL root n size (spotsL nl q c) L = false) := Lib.hid (prov_len (by rw [HLN.out, HSL.out]; exact hNc))
    have hc00 : 0 ≤ (c : Int) := by omega
    clear hNc
    go_enter Tryd.func35, Tryd.ntmps35
    go_wp2_with (first
      | ((with_reducible show wpList _ _ _ (⟨some 28, _, _, _, _, _⟩ :: _) _ _); refine wpList_quoN _ rfl (.tmp 26) (.tmp 27) _ _ rfl (n - 1) size _ _ rfl rfl HR.out rfl (by omega) (by omega) ?_; rw [HQ0.out])
      | (go_at_call 22; refine (rspots_yes nl q c _ HV.out).mono ?_; rintro e w2 ⟨v, rfl, ⟨A', n', c', rfl⟩, o1, b2⟩; obtain ⟨A', c', e', _⟩ := (RW.of_own o1.2).1.form; obtain rfl := (Value.slice.inj e').2.1.symm; clear e'; have HB2 := Lib.hid b2; clear o1 b2))
    go_ret
    exact ⟨ret_bool HF.out.symm, HB2.out⟩
end Go.Proofs.YtgjgofjabdjclaaDoor
/- The law's plain: proofs of the program as proofs of the reference. -/
namespace Go.Proofs.YtgjgofjabdjclaaDoor
open Go Go.RowKit Gf Sha

theorem infoPf : (Tryd.prog.info? 72).map (fun i => (i.zero, i.size, i.bytes)) = some (some (.agg pfZ.toArray), 3, 56) := by kernel_rfl
theorem bslPf (z : Int) (A A' : Option Addr) (n c n' c' : Nat) (w : World) : (Instr.buildSlice 66 1 #[(0, .agg #[.int .i64 z, .slice A n c, .slice A' n' c'])]).run Tryd.prog w = .ok (.slice (some ⟨w.heap.size, 0, none⟩) 1 1) (w.alloc (.cells [.int .i64 z, .slice A n c, .slice A' n' c'].toArray 72)) := by kernel_rfl
theorem bsl0P (w : World) : (Instr.buildSlice 66 0 #[]).run Tryd.prog w = .ok (.slice (some ⟨w.heap.size, 0, none⟩) 0 0) (w.alloc (.cells ([] : List Value).toArray 72)) := by kernel_rfl

set_option maxRecDepth 100000 in
set_option maxHeartbeats 4000000 in
theorem plain_any (L : List Pf) (N cp : Nat) (A : Option Addr) (w : World) (h : LS rPf 3 56 w A N cp L) (hN : N ≤ 1000) :
    Calls Tryd.prog 36 #[.slice A N cp] w fun e w' => ∃ A' c', e = .returned (.slice A' N c') ∧ LS rPf 3 56 w' A' N c' L ∧ Below w.heap.size w w' := by
  have H := Lib.hid h
  have HLN := Lib.hid h.1
  have hN0 : 0 ≤ (N : Int) := by omega
  clear h
  go_enter Tryd.func36, Tryd.ntmps36
  go_wp2_with ((with_reducible show wpList _ _ _ (⟨some 6, _, _, _, _, _⟩ :: _) _ _); refine wpList_bslice _ rfl 66 72 0 _ rfl #[] (by rw [List.map_toArray]; rfl) [] (bsl0P _) ?_; intro w1 a1 a2 a3; have HG1 := Lib.hid a1; have HB1 := Lib.hid a2; clear a1 a2 a3)
  go_loopw [3, 9] (fun v iv wr => ∃ k : Nat, k ≤ N ∧ iv = .int .i64 (k : Int) ∧ Hid (OL rPf 3 72 w wr v (L.take k)) ∧ Hid (Below w.heap.size w wr)) (fun _ iv _ => N - (intOf iv).toNat)
  case atStart => exact ⟨0, by omega, rfl, Lib.hid (OL.nil' _ _ HG1.out (Nat.le_refl _)), HB1⟩
  case round =>
    obtain ⟨k, hk, rfl, ho, hb⟩ := hrel
    obtain ⟨wx, hwx⟩ : ∃ x, x = wr := ⟨_, rfl⟩
    rw [← hwx] at ho hb ⊢
    clear hwx
    by_cases hlt : k < N
    · obtain ⟨p, g, o, cs, hp, rfl, hat, A1, n1, c1, A2, n2, c2, rfl, hb1, hb2⟩ := H.out.at_ stay_pf (Below.refl _ _) hlt
      have HA := Lib.hid (hat.kept hb.out)
      have HPF : Hid (rPf w [.int .i64 p.b, .slice A1 n1 c1, .slice A2 n2 c2] p) := Lib.hid ⟨_, _, _, _, _, _, rfl, hb1, hb2⟩
      have HTS : Hid (L.take (k + 1) = L.take k ++ [p]) := Lib.hid (by
        rw [List.take_add_one, hp]; rfl)
      have HTL : Hid ((L.take k).length = k) := Lib.hid (by rw [List.length_take, HLN.out]; omega)
      obtain ⟨css, hc1, hc2, hc3, hc4, hc5⟩ := ho.out
      rw [HTL.out] at hc1 hc4
      have HC1 := Lib.hid hc1
      have HC2 := Lib.hid hc2
      have HC3 := Lib.hid hc3
      have HC4 := Lib.hid hc4
      have HC5 := Lib.hid hc5
      clear hat hp hb1 hb2 hc1 hc2 hc3 hc4 hc5
      go_wp2_with (first
        | ((with_reducible show wpList _ _ _ (⟨some 12, _, _, _, _, _⟩ :: _) _ _); refine wpList_loadv _ rfl 63 (.tmp 11) rfl 3 (by kernel_rfl) g (o + k * 3) [.int .i64 p.b, .slice A1 n1 c1, .slice A2 n2 c2] (by go_simp) HA.out rfl ?_)
        | ((with_reducible show wpList _ _ _ (⟨some 5, _, _, _, _, _⟩ :: _) _ _); refine wpList_alloc _ rfl 63 rfl pfZ pfZero ?_; intro w3 a1 a2 a3; have HV3 := Lib.hid a1; have HX3 := Lib.hid a2; clear a1 a2 a3)
        | ((with_reducible show wpList _ _ _ (⟨none, _, _, _, _, _⟩ :: _) _ _); refine wpList_storev _ rfl 63 (.tmp 5) (.tmp 12) rfl 3 (by kernel_rfl) wx.heap.size 0 _ pfZ [.int .i64 p.b, .slice A1 n1 c1, .slice A2 n2 c2] rfl rfl HV3.out rfl (pf_one _ _ _ _ _ _ _) (by decide) ?_; intro w4 a1 a2 a3; have HV4 : Hid (BL w4 wx.heap.size 63 [.int .i64 p.b, .slice A1 n1 c1, .slice A2 n2 c2]) := Lib.hid a1; have q0 := HV4.out.get (j := 0) rfl; have q1 := HV4.out.get (j := 1) rfl; have q2 := HV4.out.get (j := 2) rfl; have HX4 : Hid (Below wx.heap.size wx w4) := Lib.hid (((Kp.of_below (S := fun _ => False) HX3.out).after a2 (fun i hi e => by omega)).below (Nat.le_refl _) (fun _ h => h.elim)); clear a1 a2 a3)
        | ((with_reducible show wpList _ _ _ (⟨some 21, _, _, _, _, _⟩ :: _) _ _); refine wpList_bslice _ rfl 66 72 1 _ rfl #[(0, .agg #[.int .i64 p.b, .slice A1 n1 c1, .slice A2 n2 c2])] (by rw [List.map_toArray]; rfl) [.int .i64 p.b, .slice A1 n1 c1, .slice A2 n2 c2] (bslPf _ _ _ _ _ _ _ _) ?_; intro w5 a1 a2 a3; have HG5 := Lib.hid a1; have HX5 := Lib.hid (below_thenB HX4.out HX4.out.size a2); clear a1 a2 a3 q0 q1 q2)
        | ((with_reducible show wpList _ _ _ (⟨some 22, _, _, _, _, _⟩ :: _) _ _); obtain ⟨iS, i1, i2, i3, i4⟩ := info_some infoPf; refine wpList_appRW _ rfl (.tmp 13) (.tmp 21) 66 72 3 iS _ rfl Tryd.underlying66 i1 i2 i3 rfl _ k _ rfl (HC4.out.kept HX5.out) w4.heap.size _ rfl HG5.out rfl (pf_one _ _ _ _ _ _ _) (by rw [i4]; omega) (by omega) ?_; intro v' w6 a1; have HR6 := Lib.hid a1; clear a1 i1 i2 i3 i4))
      have HB5 : Hid (Below w.heap.size w w5) := Lib.hid (below_thenB hb.out hb.out.size HX5.out)
      have HB6 : Hid (Below w.heap.size w w6) := Lib.hid (((Kp.of_below (S := fun _ => False) HB5.out).after HR6.out.kp (fun i hi e => by have := HC5.out i e; omega)).below (Nat.le_refl _) (fun _ h => h.elim))
      have HO6 : Hid (OL rPf 3 72 w w6 v' (L.take (k + 1))) := Lib.hid (by
        rw [HTS.out]
        exact OL.push (by rw [HC1.out, HTL.out]) HC2.out HC3.out HC5.out HTL.out rfl HPF.out HB5.out.size HR6.out)
      go_roundw
      case rel => exact ⟨k + 1, by omega, by go_num, HO6, HB6⟩
      case measure => simp [intOf]; omega
    · obtain rfl : k = N := by omega
      have HTA : Hid (L.take k = L) := Lib.hid (by rw [← HLN.out, List.take_length])
      have HL9 : Hid (L.length * 56 ≤ lim) := Lib.hid (by rw [HLN.out]; unfold lim; omega)
      go_wp2_with fail
      go_ret
      have h9 := ho.out
      rw [HTA.out] at h9
      obtain ⟨A9, c9, e9, h10⟩ := h9.ls stay_pf hb.out HL9.out
      rw [HLN.out] at e9 h10
      exact ⟨A9, c9, by rw [e9]; rfl, h10, hb.out⟩
end Go.Proofs.YtgjgofjabdjclaaDoor
