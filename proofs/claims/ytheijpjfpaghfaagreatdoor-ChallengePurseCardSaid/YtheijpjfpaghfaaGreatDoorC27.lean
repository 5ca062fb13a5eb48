/- Several texts in one: Hb, Hc. -/
import Derived.Test.YtheijpjfpaghfaaGreatDoorC26
import Derived.Test.YtheijpjfpaghfaaGreatDoorShelf
/- challenge.readRecord. -/
namespace Go.Proofs.YtheijpjfpaghfaaGreatDoor
open Go Go.RowKit Gf Sha

/-- An entry with its slices. -/
structure Se where
 e : En
 tv : Value
 uv : Value
def seC (x : Se) : List Value := [.string (strB x.e.s), .int .i64 x.e.i, x.tv, x.uv]
def Se.has (x : Se) (b : Nat) : Prop := x.tv.ownBlock = some b ∨ x.uv.ownBlock = some b
structure SOk (w : World) (x : Se) : Prop where
 st : Stk w x.tv x.uv x.e.tk x.e.us
 tu : ∀ b, x.tv.ownBlock = some b → x.uv.ownBlock ≠ some b
 ws : x.e.s.length ≤ 9223372036854775807
 wi : (Lit.int .i64 x.e.i).wf = true
theorem SOk.kp {S : Nat → Prop} {w w' : World} {x : Se} (h : SOk w x) (hk : Kp S w w') (hn : ∀ b, x.has b → ¬ S b) : SOk w' x :=
 ⟨⟨h.st.t.kp hk (fun b hb => hn b (.inl hb)), h.st.u.kp hk (fun b hb => hn b (.inr hb)), h.st.bt, h.st.bu⟩, h.tu, h.ws, h.wi⟩
theorem SOk.kept {w w' : World} {x : Se} (h : SOk w x) (hb : Below w.heap.size w w') : SOk w' x := ⟨h.st.kept hb, h.tu, h.ws, h.wi⟩
theorem SOk.lt {w : World} {x : Se} (h : SOk w x) {b : Nat} (hb : x.has b) : b < w.heap.size := hb.elim h.st.t.lt h.st.u.lt
theorem seC_one {w : World} {x : Se} (h : SOk w x) : ∀ v ∈ seC x, v.oneCell' = true := by
 obtain ⟨A1, c1, x1, _⟩ := h.st.t.form
 obtain ⟨A2, c2, x2, _⟩ := h.st.u.form
 intro v hv
 simp only [seC, List.mem_cons, List.not_mem_nil, or_false] at hv
 rcases hv with rfl | rfl | rfl | rfl
 ·
  rfl
 ·
  rfl
 ·
  rw [x1]; rfl
 ·
  rw [x2]; rfl
def reZ : List Value := [.string (strB []), .int .i64 0, nilV, nilV]
theorem reZero : (Tryz.prog.info? 82).map (·.zero) = some (some (.agg reZ.toArray)) := by kernel_rfl
theorem wf_of {z : Int} (h1 : -9223372036854775808 ≤ z) (h2 : z ≤ 9223372036854775807) : (Lit.int .i64 z).wf = true := by
 have m1 : IntKind.i64.min = -9223372036854775808 := rfl
 have m2 : IntKind.i64.max = 9223372036854775807 := rfl
 simp only [Lit.wf, Bool.and_eq_true, decide_eq_true_eq]
 exact ⟨by omega, by omega⟩
theorem unz_wf {n : Nat} (hn : n < 18446744073709551616) : (Lit.int .i64 (unz n)).wf = true := by
 unfold unz
 split
 ·
  exact wf_of (by omega) (by omega)
 ·
  exact wf_of (by omega) (by omega)
theorem rdS_len (b : List UInt8) (s : Rd) : (rdV [] sD b s).1.length ≤ 32 := by
 obtain ⟨off, last, err⟩ := s
 by_cases h0 : err = 0
 ·
  subst h0
  cases hd : sD (b.drop off) with
  | ok x =>
   rw [rdV_ok hd]
   unfold sD at hd
   split at hd
   ·
    injection hd with hd; subst hd; rw [List.length_take]; exact Nat.min_le_left _ _
   ·
    cases hd
  | error e => rw [rdV_bad hd]; exact Nat.zero_le _
 ·
  rw [rdV_err h0]; exact Nat.zero_le _
theorem bslSc (x y : List UInt8) (w : World) : (Instr.buildSlice 78 1 #[(0, .agg #[.string (strB x), .string (strB y)])]).run Tryz.prog w = .ok (.slice (some ⟨w.heap.size, 0, none⟩) 1 1) (w.alloc (.cells [.string (strB x), .string (strB y)].toArray 109)) := by kernel_rfl

/-- A reader's bytes are old: what is written into new blocks leaves it alone. -/
theorem RdS.new {w0 w w' : World} {g n c : Nat} {A : Option Addr} {b : List UInt8} {s0 s : Rd} {S : Nat → Prop} (h0 : RdS w0 g A n c b s0) (h : RdS w g A n c b s) (hk : Kp S w w') (hS : ∀ k, S k → w0.heap.size ≤ k) : RdS w' g A n c b s :=
 ⟨⟨hk.bl h.1.1 (fun e => by have := hS g e; have := h0.1.1.lt; omega), h.1.2.1.kpf hk (h0.1.2.1.far_new hS), h.1.2.2⟩, h.2⟩
theorem one_val (vs : List Value) (h : vs.all (fun v => v.oneCell') = true) : ∀ v ∈ vs, v.oneCell' = true := fun v hv => by
 rw [List.all_eq_true] at h; exact h v hv
theorem RW.cell1 {w : World} {te : TypeId} {s n : Nat} {v : Value} {l : List Value} (h : RW w te s v n l) : v.cells = #[v] ∧ v.oneCell' = true := by
 obtain ⟨A, c, rfl, _⟩ := h.form
 exact ⟨rfl, rfl⟩
theorem rdTk_len (b : List UInt8) : ∀ (k : Nat) (x : List Sc × Rd), (rdTk b k x).1.length = x.1.length + k
 | 0, _ => rfl
 | k + 1, x => by rw [rdTk, rdTk_len b k]; simp; omega
theorem rdUs_len (b : List UInt8) : ∀ (k : Nat) (x : List (List UInt8) × Rd), (rdUs b k x).1.length = x.1.length + k
 | 0, _ => rfl
 | k + 1, x => by rw [rdUs, rdUs_len b k]; simp; omega
theorem reC_one {w : World} {tv uv : Value} {s : List UInt8} {i : Int} {n m : Nat} {t u : TypeId} {x y : Nat} {l l' : List Value} (h : RW w t x tv n l) (h' : RW w u y uv m l') : ∀ v ∈ [Value.string (strB s), .int .i64 i, tv, uv], v.oneCell' = true := by
 intro v hv
 simp only [List.mem_cons, List.not_mem_nil, or_false] at hv
 rcases hv with rfl | rfl | rfl | rfl
 ·
  rfl
 ·
  rfl
 ·
  exact h.cell1.2
 ·
  exact h'.cell1.2

def RecR (b : List UInt8) (s : Rd) (g n c : Nat) (A : Option Addr) (w : World) (e : Ending) (w' : World) : Prop :=
 ∃ x : Se, x.e = (rdRec b s).1 ∧ e = .returned (.agg (seC x).toArray) ∧ SOk w' x ∧ (∀ k, x.has k → w.heap.size ≤ k) ∧ RdS w' g A n c b (rdRec b s).2 ∧ Kp (· = g) w w'
set_option maxRecDepth 100000 in
set_option maxHeartbeats 8000000 in
theorem readRecord_any (w : World) (g n c : Nat) (A : Option Addr) (b : List UInt8) (s : Rd) (h : RdS w g A n c b s) :
  Calls Tryz.prog 31 #[.pointer (some ⟨g, 0, none⟩)] w (RecR b s g n c A w) := by
 have H := Lib.hid h
 have HGL := Lib.hid h.1.1.lt
 clear h
 obtain ⟨S1, hS1⟩ : ∃ z, z = (rdV [] sD b s).1 := ⟨_, rfl⟩
 obtain ⟨s1, hs1⟩ : ∃ z, z = (rdV [] sD b s).2 := ⟨_, rfl⟩
 obtain ⟨N1, hN1⟩ : ∃ z, z = (rdV 0 uD b s1).1 := ⟨_, rfl⟩
 obtain ⟨s2, hs2⟩ : ∃ z, z = (rdV 0 uD b s1).2 := ⟨_, rfl⟩
 obtain ⟨C1, hC1⟩ : ∃ z, z = (rdC b s2).1 := ⟨_, rfl⟩
 obtain ⟨s3, hs3⟩ : ∃ z, z = (rdC b s2).2 := ⟨_, rfl⟩
 obtain ⟨TT, hTT⟩ : ∃ z, z = rdTk b C1 ([], s3) := ⟨_, rfl⟩
 obtain ⟨C2, hC2⟩ : ∃ z, z = (rdC b TT.2).1 := ⟨_, rfl⟩
 obtain ⟨s5, hs5⟩ : ∃ z, z = (rdC b TT.2).2 := ⟨_, rfl⟩
 obtain ⟨UU, hUU⟩ : ∃ z, z = rdUs b C2 ([], s5) := ⟨_, rfl⟩
 have HE : Hid (rdRec b s = (⟨S1, unz N1, TT.1, UU.1⟩, UU.2)) := Lib.hid (by
  have e2 : rdA b s = s2 := by rw [hs2, hs1]; rfl
  have e3 : rdTs b s = TT := by unfold rdTs; rw [e2, ← hC1, ← hs3, ← hTT]
  have e4 : rdUu b s = UU := by unfold rdUu; rw [e3, ← hC2, ← hs5, ← hUU]
  unfold rdRec
  rw [← hS1, ← hs1, ← hN1, e3, e4])
 have HC1 : Hid (C1 ≤ 4096 ∧ TT.1.length = C1) := Lib.hid ⟨by rw [hC1]; exact rdC_le b s2, by rw [hTT, rdTk_len]; simp⟩
 have HC2 : Hid (C2 ≤ 4096 ∧ UU.1.length = C2) := Lib.hid ⟨by rw [hC2]; exact rdC_le b TT.2, by rw [hUU, rdUs_len]; simp⟩
 have HWS : Hid (S1.length ≤ 9223372036854775807 ∧ (Lit.int .i64 (unz N1)).wf = true) := Lib.hid ⟨by rw [hS1]; exact Nat.le_trans (rdS_len b s) (by decide), by rw [hN1]; exact unz_wf (rdU_bound b s1)⟩
 have HCNT : Hid (∀ (w9 : World) (s9 : Rd), RdS w9 g A n c b s9 → Calls Tryz.prog 29 #[.pointer (some ⟨g, 0, none⟩), .int .i64 4096] w9 fun e w' => e = .returned (.int .i64 (((rdC b s9).1 : Nat) : Int)) ∧ RdS w' g A n c b (rdC b s9).2 ∧ Kp (· = g) w9 w') := Lib.hid (fun w9 s9 h9 => rcount_any 4096 (by decide) w9 g n c A b s9 h9)
 have HTT := Lib.hid hTT
 have HUU := Lib.hid hUU
 have QS1 := Lib.hid hS1
 have Qs1 := Lib.hid hs1
 have QN1 := Lib.hid hN1
 have Qs2 := Lib.hid hs2
 have QC1 := Lib.hid hC1
 have Qs3 := Lib.hid hs3
 have QC2 := Lib.hid hC2
 have Qs5 := Lib.hid hs5
 have hC14 : (C1 : Int) ≤ 4096 := by have := HC1.out.1; omega
 have hC24 : (C2 : Int) ≤ 4096 := by have := HC2.out.1; omega
 clear hTT hUU hS1 hs1 hN1 hs2 hC1 hs3 hC2 hs5
 go_enter Tryz.func31, Tryz.ntmps31
 go_wp2_with (first
  | ((with_reducible show OpW 2); refine wpList_alloc _ rfl 82 rfl reZ reZero ?_; intro w1 a1 a2 a3; have HR1 := Lib.hid a1; have HB1 := Lib.hid a2; have HZ1 := Lib.hid a3; clear a1 a2 a3)
  | ((with_reducible show OpW 3); refine wpList_alloc _ rfl 82 rfl reZ reZero ?_; intro w2 a1 a2 a3; have HX2 := Lib.hid a1; have HR2 := Lib.hid (HR1.out.kept a2); have HB2 := Lib.hid (below_then HB1.out a2); have HZ2 := Lib.hid a3; clear a1 a2 a3)
  | (go_at_call 68; refine (rdsum_any w2 g n c A b s (H.out.kept HB2.out)).mono ?_; rintro e w3 ⟨rfl, h1, h2⟩; rw [← QS1.out]; rw [← Qs1.out] at h1; have HD3 := Lib.hid h1; have HK3 := Lib.hid h2; clear h1 h2)
  | (go_at_call 69; refine (rint_any w3 g n c A b s1 HD3.out).mono ?_; rintro e w4 ⟨rfl, h1, h2⟩; rw [← QN1.out]; rw [← Qs2.out] at h1; have HD4 := Lib.hid h1; have HK4 := Lib.hid (HK3.out.trans h2); have HX4 := Lib.hid (HK4.out.bl HX2.out (by have := HGL.out; have := HB1.out.size; omega)); have HR4 := Lib.hid (HK4.out.bl HR2.out (by have := HGL.out; omega)); clear h1 h2)
  | ((with_reducible show OpN); refine wpList_storev _ rfl 39 (.tmp 9) (.tmp 8) rfl 2 (by kernel_rfl) w1.heap.size 0 _ reZ [.string (strB S1), .int .i64 (unz N1)] rfl rfl HX4.out rfl (one_val _ rfl) (by decide) ?_; intro w5 a1 a2 a3; have HX5 : Hid (BL w5 w1.heap.size 82 [.string (strB S1), .int .i64 (unz N1), nilV, nilV]) := Lib.hid a1; have HD5 := Lib.hid (H.out.new HD4.out a2 (fun k e => by have := HB1.out.size; omega)); have HR5 := Lib.hid (a2.bl HR4.out (by have := HZ1.out; omega)); have HK5 : Hid (Kp (· = g) w w5) := Lib.hid (((Kp.of_below (S := (· = g)) HB2.out).trans HK4.out).after a2 (fun i hi e => by have := HB1.out.size; omega)); have HZ5 : Hid (w2.heap.size ≤ w5.heap.size) := Lib.hid (by rw [a3]; exact HK4.out.size); clear a1 a2 a3)
  | (go_at_call 29; refine (HCNT.out w5 s2 HD5.out).mono ?_; rintro e w6 ⟨rfl, h1, h2⟩; rw [← QC1.out]; rw [← Qs3.out] at h1; have HD6 := Lib.hid h1; have HX6 := Lib.hid (h2.bl HX5.out (by have := HGL.out; have := HB1.out.size; omega)); have HR6 := Lib.hid (h2.bl HR5.out (by have := HGL.out; omega)); have HZ6 : Hid (w2.heap.size ≤ w6.heap.size) := Lib.hid (Nat.le_trans HZ5.out h2.size); have HK6 := Lib.hid (HK5.out.trans h2); clear h1 h2))
 have HSZ : Hid (g < w.heap.size ∧ w1.heap.size = w.heap.size + 1 ∧ w2.heap.size = w1.heap.size + 1) := Lib.hid ⟨HGL.out, HZ1.out, HZ2.out⟩
 clear HR1 HB1 HZ1 HX2 HR2 HB2 HZ2 HD3 HK3 HD4 HK4 HX4 HR4 HX5 HD5 HR5 HK5 HZ5 HGL
 go_loopw [12] (fun iv wr => ∃ (k : Nat) (tv : Value) (l : List Sc) (sk : Rd), k ≤ C1 ∧ iv = .int .i64 (k : Int) ∧ Hid (l.length = k) ∧ Hid (rdTk b (C1 - k) (l, sk) = TT) ∧ Hid (BL wr w1.heap.size 82 [.string (strB S1), .int .i64 (unz N1), tv, nilV]) ∧ Hid (BL wr w.heap.size 82 reZ) ∧ Hid (RW wr 109 2 tv k (l.flatMap scC)) ∧ Hid (∀ q, tv.ownBlock = some q → w2.heap.size ≤ q) ∧ Hid (RdS wr g A n c b sk) ∧ Hid (Kp (· = g) w wr) ∧ Hid (w2.heap.size ≤ wr.heap.size)) (fun iv _ => C1 - (intOf iv).toNat)
 case atStart => exact ⟨0, nilV, [], s3, by omega, rfl, Lib.hid rfl, Lib.hid HTT.out.symm, HX6, HR6, Lib.hid (RW.nil _ _ _), Lib.hid (fun q e => by cases e), HD6, HK6, HZ6⟩
 case round =>
  obtain ⟨k, tv, l, sk, hk, rfl, hl, htt, hx, hr, hrw, hown, hd, hkp, hz⟩ := hrel
  obtain ⟨wx, hwx⟩ : ∃ x, x = wr := ⟨_, rfl⟩
  rw [← hwx] at hx hr hrw hd hkp hz ⊢
  clear hwx
  by_cases hlt : k < C1
  ·
   obtain ⟨X, hX⟩ : ∃ z, z = (rdV [] sD b sk).1 := ⟨_, rfl⟩
   obtain ⟨t1, ht1⟩ : ∃ z, z = (rdV [] sD b sk).2 := ⟨_, rfl⟩
   obtain ⟨Y, hY⟩ : ∃ z, z = (rdV [] sD b t1).1 := ⟨_, rfl⟩
   obtain ⟨t2, ht2⟩ : ∃ z, z = (rdV [] sD b t1).2 := ⟨_, rfl⟩
   have HNX : Hid (rdTk b (C1 - (k + 1)) (l ++ [(X, Y)], t2) = TT) := Lib.hid (by
    have h9 := htt.out
    rw [show C1 - k = (C1 - (k + 1)) + 1 by omega, rdTk] at h9
    simp only [← hX, ← ht1, ← hY, ← ht2] at h9
    exact h9)
   have QX := Lib.hid hX
   have Qt1 := Lib.hid ht1
   have QY := Lib.hid hY
   have Qt2 := Lib.hid ht2
   clear hX ht1 hY ht2
   go_wp2_with fail
   refine Text.wp_region_text (fun w' => w'.cell? ⟨w1.heap.size, 2, none⟩ = some tv) [(0, 4), (1, 4), (3, 4), (5, 4), (2, 0), (4, 2), (6, 2), (7, 4), (8, 2), (9, 2), (10, 4), (11, 4), (12, 3)] (by kernel_rfl) (by kernel_rfl) (fun _ _ _ _ _ h => h) (hx.out.get (j := 2) rfl) ?_
   iterate 4 (refine Text.purek rfl rfl (fun K hK => ⟨_, fun w' => by go_simp <;> rfl, ?_⟩); go_simp; refine hK _ ?_; clear hK K)
   (refine Text.heldk rfl rfl (fun K hK => ⟨_, fun w' hw' => by go_simp <;> rfl, ?_⟩); go_simp; refine hK _ ?_; clear hK K)
   refine Text.eff rfl rfl (fun K hK => ?_)
   go_simp
   refine (rdsum_any wx.drew g n c A b sk hd.out).mono ?_
   rintro e y1 ⟨rfl, h1, h2⟩
   rw [← QX.out]
   rw [← Qt1.out] at h1
   have HD1 := Lib.hid h1
   have HK1 : Hid (Kp (· = g) wx y1) := Lib.hid ((Kp.drew (Kp.refl _ wx)).trans h2)
   have HX1 := Lib.hid (HK1.out.bl hx.out (by have := HSZ.out; omega))
   refine hK _ _ (HX1.out.get (j := 2) rfl) ?_
   clear hK K h1 h2
   refine Text.eff rfl rfl (fun K hK => ?_)
   go_simp
   refine (rdsum_any y1 g n c A b t1 HD1.out).mono ?_
   rintro e y2 ⟨rfl, h1, h2⟩
   rw [← QY.out]
   rw [← Qt2.out] at h1
   have HD2 := Lib.hid h1
   have HK2 : Hid (Kp (· = g) wx y2) := Lib.hid (HK1.out.trans h2)
   have HX2 := Lib.hid (HK2.out.bl hx.out (by have := HSZ.out; omega))
   have HR2 := Lib.hid (HK2.out.bl hr.out (by have := HSZ.out; omega))
   have HRW2 := Lib.hid (hrw.out.kp HK2.out (fun q e e9 => by have := hown.out q e; have := HSZ.out; omega))
   refine hK _ _ (HX2.out.get (j := 2) rfl) ?_
   clear hK K h1 h2
   (refine Text.purek rfl rfl (fun K hK => ⟨_, fun w' => by go_simp <;> rfl, ?_⟩); go_simp; refine hK _ ?_; clear hK K)
   refine Text.eff rfl rfl (fun K hK => ?_)
   refine wp_bslice 78 109 1 _ rfl #[(0, .agg #[.string (strB X), .string (strB Y)])] (by rw [List.map_toArray]; rfl) [.string (strB X), .string (strB Y)] (bslSc X Y _) ?_
   intro y3 a1 a2 a3
   have HN3 := Lib.hid a1
   have HX3 := Lib.hid (HX2.out.kept a2)
   have HR3 := Lib.hid (HR2.out.kept a2)
   have HRW3 := Lib.hid (HRW2.out.kept a2)
   have HD3 := Lib.hid (HD2.out.kept a2)
   have HK3 : Hid (Kp (· = g) wx y3) := Lib.hid (HK2.out.trans (Kp.of_below a2))
   have HLT : Hid (y2.heap.size < y3.heap.size) := Lib.hid (by omega)
   refine hK _ _ (HX3.out.get (j := 2) rfl) ?_
   clear hK K a1 a2 a3
   refine Text.eff rfl rfl (fun K hK => ?_)
   obtain ⟨iS, i1, i2, i3, i4⟩ := info_some infoSec
   refine wp_appRW _ (.tmp 16) (.tmp 22) 78 109 2 iS _ rfl Tryz.underlying78 i1 i2 i3 rfl tv k _ rfl HRW3.out y2.heap.size _ rfl HN3.out rfl (one_val _ rfl) (by rw [i4]; have := HC1.out.1; omega) (by have := HC1.out.1; omega) ?_
   intro tv' y4 ap
   have HOW4 : Hid (∀ q, tv'.ownBlock = some q → w2.heap.size ≤ q) := Lib.hid (fun q e => (ap.own q e).elim (hown.out q) (fun h => by have := hz.out; have := HK3.out.size; omega))
   have HX4 := Lib.hid (ap.kp.bl HX3.out (fun e => by have := hown.out _ e; have := HSZ.out; omega))
   have HR4 := Lib.hid (ap.kp.bl HR3.out (fun e => by have := hown.out _ e; have := HSZ.out; omega))
   have HD4 := Lib.hid (H.out.new HD3.out ap.kp (fun q e => by have := hown.out q e; have := HSZ.out; omega))
   have HK4 : Hid (Kp (fun q => q = g ∨ tv.ownBlock = some q) wx y4) := Lib.hid ((HK3.out.mono (fun k _ e => .inl e)).trans (ap.kp.mono (fun k _ e => .inr e)))
   have HRW4 : Hid (RW y4 109 2 tv' (k + 1) ((l ++ [(X, Y)]).flatMap scC)) := Lib.hid (by
    have h9 := ap.row
    rw [List.flatMap_append]
    exact h9)
   refine hK _ _ (HX4.out.get (j := 2) rfl) ?_
   clear hK K ap i1 i2 i3 i4
   iterate 2 (refine Text.purek rfl rfl (fun K hK => ⟨_, fun w' => by go_simp <;> rfl, ?_⟩); go_simp; refine hK _ ?_; clear hK K)
   refine Text.last rfl rfl (fun K hK => ?_)
   refine wp_store1 _ 78 (.tmp 25) (.tmp 23) rfl (sz1 _ (by kernel_rfl) _) w1.heap.size 2 _ _ tv' rfl rfl HX4.out HRW4.out.cell1.1 HRW4.out.cell1.2 (by simp) ?_
   intro y5 a1 a2 a3
   have HX5 : Hid (BL y5 w1.heap.size 82 [.string (strB S1), .int .i64 (unz N1), tv', nilV]) := Lib.hid a1
   have HR5 := Lib.hid (a2.bl HR4.out (by have := HSZ.out; omega))
   have HRW5 := Lib.hid (HRW4.out.kp a2 (fun q e e9 => by have := HOW4.out q e; have := HSZ.out; omega))
   have HD5 := Lib.hid (H.out.new HD4.out a2 (fun q e => by have := HSZ.out; omega))
   have HK5 : Hid (Kp (· = g) w y5) := Lib.hid ((hkp.out.after HK4.out (fun i hi e => e.elim id (fun e => by have := hown.out i e; have := HSZ.out; omega))).after a2 (fun i hi e => by have := HSZ.out; omega))
   have HZ5 : Hid (w2.heap.size ≤ y5.heap.size) := Lib.hid (by rw [a3]; exact Nat.le_trans hz.out HK4.out.size)
   refine hK _ _ ?_
   clear hK K a1 a2 a3
   refine Text.done ?_
   go_wp2_with fail
   go_roundw
   case rel => exact ⟨k + 1, tv', l ++ [(X, Y)], t2, by omega, by go_num, Lib.hid (by rw [List.length_append, hl.out]; rfl), HNX, HX5, HR5, HRW5, HOW4, HD5, HK5, HZ5⟩
   case measure => simp [intOf]; omega
  ·
   obtain rfl : k = C1 := by omega
   have hTe : (l, sk) = TT := by
    have h9 := htt.out
    rwa [Nat.sub_self] at h9
   have HT1 : Hid (l = TT.1 ∧ sk = TT.2) := Lib.hid (by rw [← hTe]; exact ⟨rfl, rfl⟩)
   clear hTe htt
   have HL1 : Hid (∀ q, tv.ownBlock = some q → q < wx.heap.size) := Lib.hid (fun q e => hrw.out.lt e)
   rw [HT1.out.1] at hrw
   rw [HT1.out.2] at hd
   clear hl HT1
   go_wp2_with (first
    | (go_at_call 29; refine (HCNT.out wx TT.2 hd.out).mono ?_; rintro e w7 ⟨rfl, h1, h2⟩; rw [← QC2.out]; rw [← Qs5.out] at h1; have HD7 := Lib.hid h1; have HX7 := Lib.hid (h2.bl hx.out (by have := HSZ.out; omega)); have HR7 := Lib.hid (h2.bl hr.out (by have := HSZ.out; omega)); have HZ7 : Hid (wx.heap.size ≤ w7.heap.size) := Lib.hid h2.size; have HT7 := Lib.hid (hrw.out.kp h2 (fun q e e9 => by have := hown.out q e; have := HSZ.out; omega)); have HK7 := Lib.hid (hkp.out.trans h2); clear h1 h2))
   go_loopw [29] (fun iv wr => ∃ (j : Nat) (uv : Value) (m : List (List UInt8)) (sj : Rd), j ≤ C2 ∧ iv = .int .i64 (j : Int) ∧ Hid (m.length = j) ∧ Hid (rdUs b (C2 - j) (m, sj) = UU) ∧ Hid (BL wr w1.heap.size 82 [.string (strB S1), .int .i64 (unz N1), tv, uv]) ∧ Hid (BL wr w.heap.size 82 reZ) ∧ Hid (RW wr 109 2 tv k (TT.1.flatMap scC)) ∧ Hid (RW wr 9 1 uv j (m.map usC)) ∧ Hid (∀ q, uv.ownBlock = some q → wx.heap.size ≤ q) ∧ Hid (RdS wr g A n c b sj) ∧ Hid (Kp (· = g) w wr) ∧ Hid (wx.heap.size ≤ wr.heap.size)) (fun iv _ => C2 - (intOf iv).toNat)
   case atStart => exact ⟨0, nilV, [], s5, by omega, rfl, Lib.hid rfl, Lib.hid HUU.out.symm, HX7, HR7, HT7, Lib.hid (RW.nil _ _ _), Lib.hid (fun q e => by cases e), HD7, HK7, HZ7⟩
   case round =>
    obtain ⟨j, uv, m, sj, hj, rfl, hm, huu, hx2, hr2, hrt, hru, hown2, hd2, hkp2, hz2⟩ := hrel
    obtain ⟨wy, hwy⟩ : ∃ x, x = wr := ⟨_, rfl⟩
    rw [← hwy] at hx2 hr2 hrt hru hd2 hkp2 hz2 ⊢
    clear hwy
    by_cases hlt2 : j < C2
    ·
     obtain ⟨X, hX⟩ : ∃ z, z = (rdV [] sD b sj).1 := ⟨_, rfl⟩
     obtain ⟨t1, ht1⟩ : ∃ z, z = (rdV [] sD b sj).2 := ⟨_, rfl⟩
     have HNX : Hid (rdUs b (C2 - (j + 1)) (m ++ [X], t1) = UU) := Lib.hid (by
      have h9 := huu.out
      rw [show C2 - j = (C2 - (j + 1)) + 1 by omega, rdUs] at h9
      simp only [← hX, ← ht1] at h9
      exact h9)
     have QX := Lib.hid hX
     have Qt1 := Lib.hid ht1
     clear hX ht1
     go_wp2_with fail
     refine Text.wp_region_text (fun w' => w'.cell? ⟨w1.heap.size, 3, none⟩ = some uv) [(0, 4), (1, 4), (3, 4), (2, 0), (4, 2), (5, 2), (6, 2), (7, 4), (8, 4), (9, 3)] (by kernel_rfl) (by kernel_rfl) (fun _ _ _ _ _ h => h) (hx2.out.get (j := 3) rfl) ?_
     iterate 3 (refine Text.purek rfl rfl (fun K hK => ⟨_, fun w' => by go_simp <;> rfl, ?_⟩); go_simp; refine hK _ ?_; clear hK K)
     (refine Text.heldk rfl rfl (fun K hK => ⟨_, fun w' hw' => by go_simp <;> rfl, ?_⟩); go_simp; refine hK _ ?_; clear hK K)
     refine Text.eff rfl rfl (fun K hK => ?_)
     go_simp
     refine (rdsum_any wy.drew g n c A b sj hd2.out).mono ?_
     rintro e y2 ⟨rfl, h1, h2⟩
     rw [← QX.out]
     rw [← Qt1.out] at h1
     have HD2 := Lib.hid h1
     have HK2 : Hid (Kp (· = g) wy y2) := Lib.hid ((Kp.drew (Kp.refl _ wy)).trans h2)
     have HX2 := Lib.hid (HK2.out.bl hx2.out (by have := HSZ.out; omega))
     have HR2 := Lib.hid (HK2.out.bl hr2.out (by have := HSZ.out; omega))
     have HRT2 := Lib.hid (hrt.out.kp HK2.out (fun q e e9 => by have := hown.out q e; have := HSZ.out; omega))
     have HRU2 := Lib.hid (hru.out.kp HK2.out (fun q e e9 => by have := hown2.out q e; have := hz.out; have := HSZ.out; omega))
     refine hK _ _ (HX2.out.get (j := 3) rfl) ?_
     clear hK K h1 h2
     refine Text.eff rfl rfl (fun K hK => ?_)
     refine wp_bslice 52 9 1 _ rfl #[(0, .string (strB X))] (by rw [List.map_toArray]; rfl) [.string (strB X)] (bslS X _) ?_
     intro y3 a1 a2 a3
     have HN3 := Lib.hid a1
     have HX3 := Lib.hid (HX2.out.kept a2)
     have HR3 := Lib.hid (HR2.out.kept a2)
     have HRT3 := Lib.hid (HRT2.out.kept a2)
     have HRU3 := Lib.hid (HRU2.out.kept a2)
     have HD3 := Lib.hid (HD2.out.kept a2)
     have HK3 : Hid (Kp (· = g) wy y3) := Lib.hid (HK2.out.trans (Kp.of_below a2))
     have HLT : Hid (y2.heap.size < y3.heap.size) := Lib.hid (by omega)
     refine hK _ _ (HX3.out.get (j := 3) rfl) ?_
     clear hK K a1 a2 a3
     refine Text.eff rfl rfl (fun K hK => ?_)
     obtain ⟨iS, i1, i2, i3, i4⟩ := info_some infoStr
     refine wp_appRW _ (.tmp 33) (.tmp 36) 52 9 1 iS _ rfl Tryz.underlying52 i1 i2 i3 rfl uv j _ rfl HRU3.out y2.heap.size _ rfl HN3.out rfl (one_val _ rfl) (by rw [i4]; have := HC2.out.1; omega) (by have := HC2.out.1; omega) ?_
     intro uv' y4 ap
     have HOW4 : Hid (∀ q, uv'.ownBlock = some q → wx.heap.size ≤ q) := Lib.hid (fun q e => (ap.own q e).elim (hown2.out q) (fun h => by have := hz2.out; have := HK3.out.size; omega))
     have HX4 := Lib.hid (ap.kp.bl HX3.out (fun e => by have := hown2.out _ e; have := hz.out; have := HSZ.out; omega))
     have HR4 := Lib.hid (ap.kp.bl HR3.out (fun e => by have := hown2.out _ e; have := hz.out; have := HSZ.out; omega))
     have HRT4 := Lib.hid (HRT3.out.kp ap.kp (fun q e e9 => by have := hown2.out q e9; have := HL1.out q e; omega))
     have HD4 := Lib.hid (H.out.new HD3.out ap.kp (fun q e => by have := hown2.out q e; have := hz.out; have := HSZ.out; omega))
     have HK4 : Hid (Kp (fun q => q = g ∨ uv.ownBlock = some q) wy y4) := Lib.hid ((HK3.out.mono (fun k _ e => .inl e)).trans (ap.kp.mono (fun k _ e => .inr e)))
     have HRU4 : Hid (RW y4 9 1 uv' (j + 1) ((m ++ [X]).map usC)) := Lib.hid (by
      have h9 := ap.row
      rw [List.map_append]
      exact h9)
     refine hK _ _ (HX4.out.get (j := 3) rfl) ?_
     clear hK K ap i1 i2 i3 i4
     iterate 2 (refine Text.purek rfl rfl (fun K hK => ⟨_, fun w' => by go_simp <;> rfl, ?_⟩); go_simp; refine hK _ ?_; clear hK K)
     refine Text.last rfl rfl (fun K hK => ?_)
     refine wp_store1 _ 52 (.tmp 39) (.tmp 37) rfl (sz1 _ (by kernel_rfl) _) w1.heap.size 3 _ _ uv' rfl rfl HX4.out HRU4.out.cell1.1 HRU4.out.cell1.2 (by simp) ?_
     intro y5 a1 a2 a3
     have HX5 : Hid (BL y5 w1.heap.size 82 [.string (strB S1), .int .i64 (unz N1), tv, uv']) := Lib.hid a1
     have HR5 := Lib.hid (a2.bl HR4.out (by have := HSZ.out; omega))
     have HRT5 := Lib.hid (HRT4.out.kp a2 (fun q e e9 => by have := hown.out q e; have := HSZ.out; omega))
     have HRU5 := Lib.hid (HRU4.out.kp a2 (fun q e e9 => by have := HOW4.out q e; have := hz.out; have := HSZ.out; omega))
     have HD5 := Lib.hid (H.out.new HD4.out a2 (fun q e => by have := HSZ.out; omega))
     have HK5 : Hid (Kp (· = g) w y5) := Lib.hid ((hkp2.out.after HK4.out (fun i hi e => e.elim id (fun e => by have := hown2.out i e; have := hz.out; have := HSZ.out; omega))).after a2 (fun i hi e => by have := HSZ.out; omega))
     have HZ5 : Hid (wx.heap.size ≤ y5.heap.size) := Lib.hid (by rw [a3]; exact Nat.le_trans hz2.out HK4.out.size)
     refine hK _ _ ?_
     clear hK K a1 a2 a3
     refine Text.done ?_
     go_wp2_with fail
     go_roundw
     case rel => exact ⟨j + 1, uv', m ++ [X], t1, by omega, by go_num, Lib.hid (by rw [List.length_append, hm.out]; rfl), HNX, HX5, HR5, HRT5, HRU5, HOW4, HD5, HK5, HZ5⟩
     case measure => simp [intOf]; omega
    ·
     obtain rfl : j = C2 := by omega
     have hUe : (m, sj) = UU := by
      have h9 := huu.out
      rwa [Nat.sub_self] at h9
     have HU1 : Hid (m = UU.1 ∧ sj = UU.2) := Lib.hid (by rw [← hUe]; exact ⟨rfl, rfl⟩)
     clear hUe huu
     rw [HU1.out.1] at hru
     rw [HU1.out.2] at hd2
     clear hm HU1
     go_wp2_with (first
      | ((with_reducible show OpW 41); refine wpList_loadv _ rfl 82 (.tmp 3) rfl 4 (by kernel_rfl) w1.heap.size 0 _ rfl (BL.all hx2.out) rfl ?_)
      | ((with_reducible show OpN); refine wpList_storev _ rfl 82 (.tmp 2) (.tmp 41) rfl 4 (by kernel_rfl) w.heap.size 0 _ reZ [.string (strB S1), .int .i64 (unz N1), tv, uv] rfl rfl hr2.out rfl (reC_one hrt.out hru.out) (by decide) ?_; intro w8 a1 a2 a3; have HR8 : Hid (BL w8 w.heap.size 82 [.string (strB S1), .int .i64 (unz N1), tv, uv]) := Lib.hid a1; have HK8 := Lib.hid a2; clear a1 a2 a3))
     refine bodyPost_ret (results_at w8 Tryz.results31 (n := 4) (by kernel_rfl) (g := w.heap.size) (o := 0) rfl (ms := [.string (strB S1), .int .i64 (unz N1), tv, uv]) (BL.all HR8.out) rfl) rfl ⟨⟨⟨S1, unz N1, TT.1, UU.1⟩, tv, uv⟩, by rw [HE.out], rfl, ⟨⟨?_, ?_, ?_, ?_⟩, fun q e e9 => ?_, HWS.out.1, HWS.out.2⟩, fun q e => ?_, ?_, ?_⟩
     ·
      have h9 := hrt.out.kp HK8.out (fun q e e9 => by have := hown.out q e; have := HSZ.out; omega)
      rw [← HC1.out.2] at h9
      exact h9
     ·
      have h9 := hru.out.kp HK8.out (fun q e e9 => by have := hown2.out q e; have := hz.out; have := HSZ.out; omega)
      rw [← HC2.out.2] at h9
      exact h9
     ·
      show TT.1.length ≤ 100000
      have := HC1.out; omega
     ·
      show UU.1.length ≤ 100000
      have := HC2.out; omega
     ·
      have := hown2.out q e9; have := HL1.out q e; omega
     ·
      have := HSZ.out
      exact e.elim (fun e => by have := hown.out q e; omega) (fun e => by have := hown2.out q e; have := hz.out; omega)
     ·
      rw [HE.out]
      exact H.out.new hd2.out HK8.out (fun q e => by omega)
     ·
      exact hkp2.out.after HK8.out (fun i hi e => by omega)
end Go.Proofs.YtheijpjfpaghfaaGreatDoor
/- Rows of strings that are sorted and compacted; challenge.distinct. -/
namespace Go.Proofs.YtheijpjfpaghfaaGreatDoor
open Go Go.RowKit Go.Lib Go.Sort Gf Sha

/-- The sorted list. -/
def ssort (z : List (List UInt8)) : List (List UInt8) := z.mergeSort fun x y => decide (x ≤ y)
theorem ssort_length (z : List (List UInt8)) : (ssort z).length = z.length := by simp [ssort]
theorem putCells_size {α : Type} [Inhabited α] (enc : α → Value) (o : Nat) (d : Array α) (cur : Array Value) : (putCells enc o d cur).size = cur.size := by simp [putCells]
theorem putCells_row (cur : Array Value) (o : Nat) (ts : List (List UInt8)) (h : o + ts.length ≤ cur.size) : ((putCells encStr o ts.toArray cur).toList.drop o).take ts.length = ts.map usC := by
 apply List.ext_getElem?
 intro j
 by_cases hj : j < ts.length
 ·
  rw [List.getElem?_take_of_lt hj, List.getElem?_drop, Array.getElem?_toList]
  have h1 : o + j < cur.size := by omega
  simp [putCells, hj, h1, usC, strB]
 ·
  rw [List.getElem?_take_eq_none (by omega), List.getElem?_eq_none (by simp; omega)]
section
variable {w : World} {g o n c : Nat} {z ts : List (List UInt8)}
theorem RW.holds (h : RW w 9 1 (.slice (some ⟨g, o, none⟩) n c) n (z.map usC)) : Holds encStr w g o z.toArray ∧ g < w.heap.size := by
 have hl := h.1
 rcases h.2 with ⟨e, _⟩ | ⟨g', o', c', cs, e, hb, h1, h2, h3, h4⟩
 ·
  cases e
 ·
  cases e
  refine ⟨fun j hj => ?_, hb.lt⟩
  have hj' : j < z.length := by simpa using hj
  refine ⟨?_, hb.frozen _⟩
  have h5 : (z.map usC)[j]? = some (usC z[j]) := by rw [List.getElem?_map, List.getElem?_eq_getElem hj']; rfl
  rw [← h4, List.getElem?_take_of_lt (by simp at hl; omega), List.getElem?_drop] at h5
  have := hb.get h5
  rw [this]
  simp [usC, strB, hj']
theorem RW.put {os : Array Obj} {q : Nat} (h : RW w 9 1 (.slice (some ⟨g, o, none⟩) n c) n (z.map usC)) (hl : ts.length = n) :
  RW (grow (putRow encStr (Sort.ahead w q) g o ts.toArray) os) 9 1 (.slice (some ⟨g, o, none⟩) n c) n (ts.map usC) ∧ Kp (fun b => (Value.slice (some ⟨g, o, none⟩) n c).ownBlock = some b) w (grow (putRow encStr (Sort.ahead w q) g o ts.toArray) os) := by
 rcases h.2 with ⟨e, _⟩ | ⟨g', o', c', cs, e, hb, h1, h2, h3, h4⟩
 ·
  cases e
 ·
  cases e
  have hsz : o + ts.length ≤ cs.toArray.size := by simp; omega
  have hgl := hb.lt
  refine ⟨⟨by simp [hl], .inr ⟨g, o, c, (putCells encStr o ts.toArray cs.toArray).toList, rfl, ?_, h1, h2, ?_, ?_⟩⟩, ⟨rfl, rfl, rfl, by simp, fun k hk hne => ?_⟩⟩
  ·
   show (grow (putRow encStr (Sort.ahead w q) g o ts.toArray) os).heap[g]? = some _
   rw [heap_grow_old _ _ (by simpa using hgl)]
   have hb' : w.heap[g]? = some (.cells cs.toArray 9) := hb
   simp [putRow, mapBlock, Sort.ahead, Array.getElem?_modify, hb', onCells]
  ·
   rw [Array.length_toList, putCells_size]
   simpa using h3
  ·
   rw [Nat.mul_one, ← hl]
   exact putCells_row _ _ _ hsz
  ·
   rw [heap_grow_old _ _ (by simpa using hk)]
   have : g ≠ k := fun e => hne (by rw [e]; rfl)
   simp [putRow, mapBlock, Sort.ahead, Array.getElem?_modify, this]
theorem RW.cut {te : TypeId} {s k : Nat} {A : Option Addr} {l : List Value} (h : RW w te s (.slice A n c) n l) (hk : k ≤ n) : RW w te s (.slice A k c) k (l.take (k * s)) := by
 have hks : k * s ≤ n * s := Nat.mul_le_mul_right _ hk
 rcases h.2 with ⟨e, h0⟩ | ⟨g', o', c', cs, e, hb, h1, h2, h3, h4⟩
 ·
  cases e
  obtain rfl : k = 0 := by omega
  simpa using RW.nil w te s
 ·
  cases e
  refine ⟨by rw [List.length_take, h.1]; omega, .inr ⟨g', o', c, cs, rfl, hb, by omega, h2, h3, ?_⟩⟩
  rw [← h4, List.take_take, Nat.min_eq_left hks]
end
theorem sort_rw (v : Value) (n : Nat) (z : List (List UInt8)) (w : World) (h : RW w 9 1 v n (z.map usC)) (hn : n < 4611686018427387904) :
  Calls Tryz.prog 70 #[v] w fun e w' => e = .returned (.tuple #[]) ∧ RW w' 9 1 v n ((ssort z).map usC) ∧ Kp (fun b => v.ownBlock = some b) w w' := by
 have hl := h.1
 simp only [List.length_map, Nat.mul_one] at hl
 rcases h.2 with ⟨rfl, h0⟩ | ⟨g, o, c, cs, rfl, hb, h1, h2, h3, h4⟩
 ·
  subst h0
  refine (Tryz.slices_Sort_string_none none 0 w).mono ?_
  rintro e w' ⟨rfl, rfl⟩
  obtain rfl : z = [] := List.length_eq_zero_iff.1 hl
  exact ⟨rfl, by simpa [ssort] using h, Kp.refl _ _⟩
 ·
  obtain ⟨hh, hg⟩ := h.holds
  have := Tryz.slices_Sort_string g o c z w hh hg (by omega)
  rw [hl] at this
  refine this.mono ?_
  rintro e w' ⟨rfl, q, os, rfl⟩
  exact ⟨rfl, h.put (by rw [← hl]; exact ssort_length z)⟩
theorem compact_len_le (z : List (List UInt8)) : (Lib.compact z).length ≤ z.length := by
 unfold Lib.compact Lib.compactUpTo
 rw [List.length_map]
 exact Nat.le_trans (List.length_filter_le _ _) (by simp)
theorem compact_rw (v : Value) (n : Nat) (z : List (List UInt8)) (w : World) (h : RW w 9 1 v n (z.map usC)) (hn : n < 4611686018427387904) :
  Calls Tryz.prog 71 #[v] w fun e w' => ∃ v', e = .returned v' ∧ RW w' 9 1 v' (Lib.compact z).length ((Lib.compact z).map usC) ∧ v'.ownBlock = v.ownBlock ∧ Kp (fun b => v.ownBlock = some b) w w' := by
 have hl := h.1
 simp only [List.length_map, Nat.mul_one] at hl
 rcases h.2 with ⟨rfl, h0⟩ | ⟨g, o, c, cs, rfl, hb, h1, h2, h3, h4⟩
 ·
  subst h0
  refine (Tryz.slices_Compact_string_empty none 0 w).mono ?_
  rintro e w' ⟨rfl, rfl⟩
  obtain rfl : z = [] := List.length_eq_zero_iff.1 hl
  exact ⟨_, rfl, h, rfl, Kp.refl _ _⟩
 ·
  obtain ⟨hh, hg⟩ := h.holds
  have := Tryz.slices_Compact_string g o c z w hh (by omega) (by omega)
  rw [hl] at this
  refine this.mono ?_
  rintro e w' ⟨rfl, q, rfl⟩
  have hc : (Lib.compact z).length ≤ n := by rw [← hl]; exact compact_len_le z
  have h9 := h.put (os := #[]) (q := q) (ts := Lib.compact z ++ List.replicate (n - (Lib.compact z).length) []) (by simp; omega)
  rw [grow_empty] at h9
  refine ⟨_, rfl, ?_, rfl, h9.2⟩
  have h10 := h9.1.cut hc
  rw [Nat.mul_one, List.map_append, List.take_left' (by simp)] at h10
  exact h10

theorem str_ltr {a b c : List UInt8} (h1 : a < b) (h2 : b < c) : a < c := List.lt_trans h1 h2
theorem str_lle {a b : List UInt8} (h : a ≤ b) (hn : a ≠ b) : a < b := by
 rcases List.le_iff_lt_or_eq.1 h with h | h
 ·
  exact h
 ·
  exact absurd h hn
theorem compact_len {z : List (List UInt8)} (h : z.Pairwise (· ≤ ·)) : ∀ m, m ≤ z.length → ((Lib.compactUpTo z.toArray m).length ≤ m ∧ ((Lib.compactUpTo z.toArray m).length = m → (z.take m).Pairwise (· < ·)) ∧ ((z.take m).Pairwise (· < ·) → (Lib.compactUpTo z.toArray m).length = m)) := by
 intro m
 induction m with
 | zero => intro _; simp [Lib.compactUpTo]
 | succ m ih =>
  intro hm
  obtain ⟨h1, h2, h3⟩ := ih (by omega)
  have hlt : m < z.length := by omega
  have e : z.toArray[m]! = z[m] := by rw [getElem!_pos z.toArray m (by simpa using hlt)]; simp
  have et : z.take (m + 1) = z.take m ++ [z[m]] := by rw [List.take_add_one, List.getElem?_eq_getElem hlt]; rfl
  rw [Lib.compactUpTo_succ, e, et]
  by_cases h0 : m = 0
  ·
   subst h0
   have : Lib.keeps z.toArray 0 = true := Lib.keeps_lt_one _ 0 (by omega)
   rw [this, if_pos rfl]
   simp [Lib.compactUpTo]
  have e' : z.toArray[m - 1]! = z[m - 1] := by rw [getElem!_pos z.toArray (m - 1) (by simp; omega)]; simp
  have hmem : z[m - 1] ∈ z.take m := by
   have hm1 : m - 1 < (z.take m).length := by rw [List.length_take]; omega
   have h5 := List.getElem_mem hm1
   rw [List.getElem_take] at h5
   exact h5
  have hle : ∀ y ∈ z.take m, y ≤ z[m - 1] := fun y hy => by
   obtain ⟨k, hk, rfl⟩ := List.getElem_of_mem hy
   rw [List.length_take] at hk
   rw [List.getElem_take]
   by_cases hk1 : k = m - 1
   ·
    subst hk1; exact List.le_refl _
   ·
    exact List.pairwise_iff_getElem.1 h k (m - 1) (by omega) (by omega) (by omega)
  by_cases hd : z[m] = z[m - 1]
  ·
   have : Lib.keeps z.toArray m = false := Lib.keeps_neg (by omega) (by rw [e, e', hd])
   rw [this, if_neg (by simp), List.append_nil]
   refine ⟨by omega, fun h9 => by omega, fun h9 => ?_⟩
   have h8 := (List.pairwise_append.1 h9).2.2 _ hmem z[m] (List.mem_singleton_self _)
   rw [hd] at h8
   exact absurd h8 (List.lt_irrefl _)
  ·
   have : Lib.keeps z.toArray m = true := Lib.keeps_pos (by rw [e, e']; exact hd)
   rw [this, if_pos rfl]
   have hlt2 : z[m - 1] < z[m] := str_lle (List.pairwise_iff_getElem.1 h (m - 1) m (by omega) hlt (by omega)) (fun e => hd e.symm)
   rw [List.length_append]
   refine ⟨by simp; omega, fun h9 => ?_, fun h9 => ?_⟩
   ·
    refine List.pairwise_append.2 ⟨h2 (by simp at h9; omega), by simp, fun a ha b hb => ?_⟩
    rw [List.mem_singleton.1 hb]
    rcases List.le_iff_lt_or_eq.1 (hle a ha) with h5 | h5
    ·
     exact str_ltr h5 hlt2
    ·
     rw [h5]; exact hlt2
   ·
    rw [h3 (List.pairwise_append.1 h9).1]; rfl
theorem ssort_le (l : List (List UInt8)) : (ssort l).Pairwise (· ≤ ·) := by
 unfold ssort
 have h1 : (l.mergeSort fun x y => decide (x ≤ y)).Pairwise (fun x y => decide (x ≤ y) = true) := List.pairwise_mergeSort (fun a b c h1 h2 => by simp only [decide_eq_true_eq] at *; exact List.le_trans h1 h2) (fun a b => by simp only [Bool.or_eq_true, decide_eq_true_eq]; exact List.le_total a b) l
 exact h1.imp (fun h => by simpa using h)
/-- Sorted and compacted it is as long: no string occurs twice. -/
theorem compact_nodup (l : List (List UInt8)) : (Lib.compact (ssort l)).length = l.length ↔ l.Nodup := by
 have h := compact_len (ssort_le l) (ssort l).length (Nat.le_refl _)
 rw [List.take_length, ssort_length] at h
 have hp : (ssort l).Perm l := List.mergeSort_perm _ _
 have e : Lib.compact (ssort l) = Lib.compactUpTo (ssort l).toArray (ssort l).length := rfl
 rw [e, ssort_length]
 constructor
 ·
  intro h9
  have h8 := h.2.1 h9
  refine hp.nodup_iff.1 (h8.imp (fun h7 h6 => ?_))
  rw [h6] at h7
  exact absurd h7 (List.lt_irrefl _)
 ·
  intro h9
  refine h.2.2 ?_
  have h8 : (ssort l).Nodup := hp.nodup_iff.2 h9
  exact ((ssort_le l).and h8).imp (fun h7 => str_lle h7.1 h7.2)
set_option maxHeartbeats 1000000 in
theorem distinct_any (v : Value) (n : Nat) (l : List (List UInt8)) (w : World) (h : RW w 9 1 v n (l.map usC)) (hn : n ≤ 1000000) :
  Calls Tryz.prog 35 #[v] w fun e w' => e = .returned (.bool (decide l.Nodup)) ∧ Kp (fun b => v.ownBlock = some b) w w' := by
 obtain ⟨A, c, rfl, _⟩ := h.form
 have H := Lib.hid h
 have hl : l.length = n := by have := h.1; simpa using this
 have HL := Lib.hid hl
 clear h hl
 obtain ⟨m, hm⟩ : ∃ m, m = (Lib.compact (ssort l)).length := ⟨_, rfl⟩
 have HB : Hid (decide ((m : Int) = (n : Int)) = decide l.Nodup) := Lib.hid (by
  have h9 := compact_nodup l
  rw [← hm, HL.out] at h9
  exact decide_eq_decide.2 (Iff.trans (by omega) h9))
 have HM := Lib.hid hm
 clear hm
 go_enter Tryz.func35, Tryz.ntmps35
 go_wp2_with (first
  | (go_at_call 70; refine (sort_rw _ n l w H.out (by omega)).mono ?_; rintro e w1 ⟨rfl, h1, h2⟩; have HS := Lib.hid h1; have HK := Lib.hid h2; clear h1 h2)
  | (go_at_call 71; refine (compact_rw _ n (ssort l) w1 HS.out (by omega)).mono ?_; rintro e w2 ⟨v', rfl, h1, h2, h3⟩; rw [← HM.out] at h1; obtain ⟨A', c', ev, _⟩ := h1.form; subst ev; have HK2 := Lib.hid (HK.out.trans h3); clear h1 h2 h3))
 go_ret
 exact ⟨by rw [← HB.out]; rfl, HK2.out⟩
end Go.Proofs.YtheijpjfpaghfaaGreatDoor
