/- reedsolomon.Locate refuses; contract of the reference kinkeepref08.Locate. -/
import Derived.Test.YtoeeklkebcgmaaaNear2m
namespace Go.Proofs.Ytoeeklkebcgmaaa
open Go.RowKit Gf

attribute [local go_sem] Gf.xor_bits Gf.and_bits Gf.or_bits Gf.ne_zero_iff Gf.eq_zero_iff Gf.eq_one_iff Gf.beq_bytes Gf.bne_bytes Gf.bv_toNat

set_option maxHeartbeats 1000000 in
theorem locate_bad (d t : Int) (A A' : Option Addr) (n c n' c' : Nat) (z : List Int) (m : List (List UInt8)) (w : World) (h : IS w A n c z) (h' : MS w A' n' c' m) (hbad : gvE d t z m ≠ 0) :
    Calls Try.prog 20 #[.int .i64 d, .int .i64 t, .slice A n c, .slice A' n' c'] w (Bad (gvE d t z m) w) := by
  have HI := Lib.hid h
  have HM := Lib.hid h'
  have HC := Lib.hid (gvE_cases d t z m)
  have HB := Lib.hid hbad
  clear h h' hbad
  go_enter Try.func20, Try.ntmps20
  go_wp2_with fail
  refine (checkGiven_any d t A A' n c n' c' z m w HI.out HM.out).mono ?_
  rintro e w1 ⟨rfl, hb1⟩
  have HB1 := Lib.hid hb1
  clear hb1
  rcases HC.out with e | e | e
  · exact absurd e HB.out
  · rw [e]
    have HE := Lib.hid e
    clear HB HC e
    go_wp2_with fail
    go_ret2
    exact ⟨by rw [HE.out]; rfl, HB1.out⟩
  · rw [e]
    have HE := Lib.hid e
    clear HB HC e
    go_wp2_with fail
    go_ret2
    exact ⟨by rw [HE.out]; rfl, HB1.out⟩

def rows2 (v1 v2 : Value) (z : List Nat) (m : List (List UInt8)) (s i : Nat) (ps : List Value) : Nat → ORow
  | 0 => ⟨3, v1, (selN z s true i).length, (ints (selN z s true i)).map (Value.int .i64)⟩
  | _ => ⟨22, v2, (selM m s true i).length, ps⟩
def RpI (w0 : World) (z : List Nat) (m : List (List UInt8)) (s i : Nat) (v1 v2 : Value) (wr : World) : Prop :=
  ∃ ps, Ctx w0.heap.size 2 wr (rows2 v1 v2 z m s i ps) ∧ Below w0.heap.size w0 wr ∧ Pcs w0 ps (selM m s true i)
theorem RpI.push {w0 wr : World} {z : List Nat} {m : List (List UInt8)} {s k : Nat} {v1 v2 v1' v2' : Value} {ps : List Value} {A : Option Addr} {n c : Nat} (hbit : s.testBit k = true)
    (hc : Ctx w0.heap.size 2 wr (upd (upd (rows2 v1 v2 z m s k ps) 0 ⟨3, v1', (selN z s true k).length + 1, (ints (selN z s true k)).map (Value.int .i64) ++ [.int .i64 (gN z k : Int)]⟩) 1 ⟨22, v2', (selM m s true k).length + 1, ps ++ [.slice A n c]⟩))
    (hb : Below w0.heap.size w0 wr) (h2 : Pcs w0 ps (selM m s true k)) (hl : BS w0 A n c (gR m k)) : RpI w0 z m s (k + 1) v1' v2' wr := by
  have e2 : selN z s true (k + 1) = selN z s true k ++ [gN z k] := by rw [selN, if_pos hbit]
  have e4 : selM m s true (k + 1) = selM m s true k ++ [gR m k] := by rw [selM, if_pos hbit]
  refine ⟨ps ++ [.slice A n c], hc.congr (fun i hi => ?_), hb, by rw [e4]; exact h2.push hl⟩
  match i with
  | 0 => simp only [upd, rows2, e2, ints_map_append, List.length_append, List.length_cons, List.length_nil]; rfl
  | 1 => simp only [upd, rows2, e4, List.length_append, List.length_cons, List.length_nil]; rfl
theorem RpI.skip {w0 wr : World} {z : List Nat} {m : List (List UInt8)} {s k : Nat} {v1 v2 : Value} (hbit : s.testBit k = false) (h : RpI w0 z m s k v1 v2 wr) : RpI w0 z m s (k + 1) v1 v2 wr := by
  have e2 : selN z s true (k + 1) = selN z s true k := by rw [selN, if_neg (by simp [hbit])]
  have e4 : selM m s true (k + 1) = selM m s true k := by rw [selM, if_neg (by simp [hbit])]
  obtain ⟨ps, hc, hb, hp⟩ := h
  refine ⟨ps, hc.congr (fun i hi => ?_), hb, by rw [e4]; exact hp⟩
  match i with
  | 0 => simp only [rows2, e2]
  | 1 => simp only [rows2, e4]
theorem i64_and_nat (a b : Nat) (ha : a < 256) (hb : b < 256) : bits .and .i64 (a : Int) (b : Int) = ((a &&& b : Nat) : Int) := by
  have hx : a &&& b < 2 ^ 8 := Nat.and_lt_two_pow _ (by omega)
  show IntKind.i64.wrap ((BitVec.ofInt 64 (a : Int) &&& BitVec.ofInt 64 (b : Int)).toNat : Int) = _
  rw [BitVec.toNat_and, ofInt_u64 a (by omega), ofInt_u64 b (by omega), IntKind.wrap_i64]
  omega
theorem bit_i64 (s k : Nat) (hs : s < 256) : bits .and .i64 ((s : Int) / 2 ^ k) 1 = if s.testBit k then 1 else 0 := by
  have e : (s : Int) / 2 ^ k = ((s / 2 ^ k : Nat) : Int) := by push_cast; rfl
  have hlt : s / 2 ^ k < 256 := Nat.lt_of_le_of_lt (Nat.div_le_self _ _) hs
  have := i64_and_nat (s / 2 ^ k) 1 (by omega) (by omega)
  rw [e]
  rw [show ((1 : Nat) : Int) = 1 from rfl] at this
  rw [this, Nat.and_one_is_mod, Nat.testBit_eq_decide_div_mod_eq]
  by_cases h : s / 2 ^ k % 2 = 1
  · simp [h]
  · have : s / 2 ^ k % 2 = 0 := by omega
    simp [this]
theorem RpI.start {wo : World} {z : List Nat} {m : List (List UInt8)} {s : Nat} : RpI wo z m s 0 (.slice (some ⟨wo.heap.size, 0, none⟩) 0 0) (.slice (some ⟨wo.heap.size + 1, 0, none⟩) 0 0) ((wo.alloc (.cells #[] 3)).alloc (.cells #[] 22)) := by
  have hb1 : Below wo.heap.size wo (wo.alloc (.cells #[] 3)) := (Below.refl _ _).alloc (Nat.le_refl _) _
  have hb2 : Below (wo.alloc (.cells #[] 3)).heap.size (wo.alloc (.cells #[] 3)) ((wo.alloc (.cells #[] 3)).alloc (.cells #[] 22)) := (Below.refl _ _).alloc (Nat.le_refl _) _
  refine ⟨[], ⟨fun i hi => ?_, fun i j hi hj hne g hg => ?_⟩, below_then hb1 hb2, Pcs.nil _⟩
  · match i with
    | 0 => exact Kp.own (S := fun _ => False) (Kp.of_below hb2) (World.ownsRow_lit wo #[] 0 (Nat.le_refl _) (by simp [maxLen]) rfl) (fun _ _ => id)
    | 1 =>
      have h1 := ownsRow_base (World.ownsRow_lit (e := 22) (wo.alloc (.cells #[] 3)) #[] 0 (Nat.le_refl _) (by simp [maxLen]) rfl) hb1.size
      have e : (wo.alloc (.cells #[] 3)).heap.size = wo.heap.size + 1 := by simp
      rw [e] at h1
      exact h1
  · match i, j with
    | 0, 0 => exact absurd rfl hne
    | 0, 1 => simp [rows2, Value.ownBlock] at hg ⊢; omega
    | 1, 0 => simp [rows2, Value.ownBlock] at hg ⊢; omega
    | 1, 1 => exact absurd rfl hne

def RlRet (z : List Nat) (m : List (List UInt8)) (d L n t : Nat) (w : World) (e : Ending) (w' : World) : Prop :=
  Below w.heap.size w w' ∧ ((∃ s v, s < 2 ^ n ∧ rfH z m d L n t s = true ∧ e = .returned (.tuple #[v, .bool true]) ∧ w'.ownsRow w.heap.size 3 1 v (wrA d z m (rfX z m d L n s) L n t).length ((ints (wrA d z m (rfX z m d L n s) L n t)).map (Value.int .i64))) ∨
    ((∀ s, s < 2 ^ n → rfH z m d L n t s = false) ∧ e = .returned (.tuple #[.slice none 0 0, .bool false])))

set_option maxRecDepth 100000 in
set_option maxHeartbeats 2000000 in
theorem rloc_any (d t : Nat) (A A' : Option Addr) (n c c' : Nat) (z : List Nat) (m : List (List UInt8)) (L : Nat) (w : World) (h : IS w A n c (ints z)) (h' : MS w A' n c' m) (gk : GvOk d t n z m L) (hn8 : n ≤ 8) :
    Calls Try.prog 22 #[.int .i64 (d : Int), .int .i64 (t : Int), .slice A n c, .slice A' n c'] w (RlRet z m d L n t w) := by
  have HI := Lib.hid h
  have HM := Lib.hid h'
  have HK := Lib.hid gk
  have hd1 := gk.d1
  have hd8 := gk.d8
  have hdn := gk.dn
  clear h h' gk
  obtain ⟨x, hx⟩ : ∃ x : Nat, x = (n - d) / 2 := ⟨_, rfl⟩
  obtain ⟨N, hN⟩ : ∃ N : Nat, N = 2 ^ n := ⟨_, rfl⟩
  have HEX : Hid (((n : Int) - (d : Int)) / 2 = (x : Int)) := Lib.hid (by rw [hx]; omega)
  have HN8 : Hid (N ≤ 256) := Lib.hid (by rw [hN]; exact Nat.pow_le_pow_right (n := 2) (by omega) hn8)
  have HX := Lib.hid hx
  have HN := Lib.hid hN
  have hN' : (N : Int) ≤ 256 := by have := HN8.out; omega
  have HEN : Hid (wrap64 (2 ^ n) = (N : Int)) := Lib.hid (by
    have e2 : ((2 : Int) ^ n) = (N : Int) := by rw [hN]; norm_cast
    rw [e2]; unfold wrap64; omega)
  have hn8' : (n : Int) ≤ 8 := by omega
  clear hx hN
  go_enter Try.func22, Try.ntmps22
  go_wp2_with fail
  go_loopw [10] (fun i wr => ∃ s : Nat, s ≤ N ∧ i = .int .i64 (s : Int) ∧ Hid (Below w.heap.size w wr) ∧ Hid (∀ s', s' < s → rfH z m d L n t s' = false)) (fun i _ => N - (intOf i).toNat)
  case atStart => exact ⟨0, by omega, rfl, Lib.hid (Below.refl _ _), Lib.hid (fun s' hs' => absurd hs' (by omega))⟩
  case round =>
    obtain ⟨s, hsN, rfl, hB, hH⟩ := hrel
    by_cases hlt : s < N
    · have hs256 : (s : Int) < 256 := by omega
      have HS256 : Hid (s < 256) := Lib.hid (by omega)
      have q1 : decide ((s : Int) < wrap64 (2 ^ n)) = true := by rw [HEN.out]; simp; omega
      obtain ⟨wo, rfl⟩ : ∃ wo : World, wo = wr := ⟨_, rfl⟩
      have HIo := Lib.hid (HI.out.kept hB.out)
      have HMo := Lib.hid (HM.out.kept hB.out)
      go_wp2_with fail
      have HR0 := Lib.hid (RpI.start (wo := wo) (z := z) (m := m) (s := s))
      go_loopw [11, 12, 13] (fun v1 v2 i wr => ∃ k : Nat, k ≤ n ∧ i = .int .i64 (k : Int) ∧ Hid (RpI wo z m s k v1 v2 wr)) (fun _ _ i _ => n - (intOf i).toNat)
      case atStart => exact ⟨0, by omega, rfl, HR0⟩
      case round =>
        obtain ⟨k, hk, rfl, hpt⟩ := hrel
        by_cases hkn : k < n
        · have HBIT := Lib.hid (bit_i64 s k HS256.out)
          cases hbit : s.testBit k with
          | false =>
            have hbb : (bits .and .i64 ((s : Int) / 2 ^ k) 1 == 1) = false := by rw [HBIT.out, hbit]; rfl
            have HPT := Lib.hid (RpI.skip hbit hpt.out)
            clear hbit HBIT hpt HR0
            go_wp2_with fail
            go_roundw
            case rel => exact ⟨k + 1, by omega, by go_num, HPT⟩
            case measure => simp [intOf]; omega
          | true =>
              have hbb : (bits .and .i64 ((s : Int) / 2 ^ k) 1 == 1) = true := by rw [HBIT.out, hbit]; rfl
              have HBT := Lib.hid hbit
              obtain ⟨ps, hc, hb, hp2⟩ := hpt.out
              obtain ⟨g1, o1, rfl, hc1⟩ := HIo.out.nat (Below.refl _ _) hkn
              obtain ⟨g2, o2, A2, n2, c2, rfl, hc2, hr2⟩ := HMo.out.at_ (Below.refl _ _) hkn
              have hc1' := cell_kept hb hc1
              have hc2' := cell_kept hb hc2
              have HCX := Lib.hid hc
              have HBX := Lib.hid hb
              have HP2 := Lib.hid hp2
              have HR2 := Lib.hid hr2
              have HC1 := Lib.hid hc1
              have HC2 := Lib.hid hc2
              have hsl := sel_le z s true k
              have HML : Hid ((selM m s true k).length ≤ k) := Lib.hid (by rw [sel_length z]; exact sel_le z s true k)
              have hml := HML.out
              clear hbit HBIT hpt hc hb hp2 hr2 hc1 hc2 HR0
              go_wp2_with fail
              refine Text.wp_region_bt (fun w' => w'.cell? ⟨g1, o1 + k, none⟩ = some (.int .i64 (gN z k : Int)) ∧ w'.cell? ⟨g2, o2 + k, none⟩ = some (.slice A2 n2 c2)) (.still 0 4 (.still 1 4 (.still 2 4 (.still 3 4 (.still 7 4 (.still 8 4 (.still 9 4 (.still 10 4 (.still 4 0 (.still 11 0 (.br 5 (.br 6 (.eff 12 (.eff 13 (.still 14 4 (.still 15 4 .leaf)))) 12 (.eff 6 (.eff 13 (.still 14 4 (.still 15 4 .leaf))))) 12 (.eff 5 (.eff 6 (.eff 13 (.still 14 4 (.still 15 4 .leaf)))))))))))))))) (by kernel_rfl) (by kernel_rfl) (fun _ _ _ _ _ h => h) (⟨hc1', hc2'⟩) ?_
              obtain ⟨wd, hwd⟩ : ∃ wd : World, wd = wr.drew := ⟨_, rfl⟩
              have HCd : Hid (Ctx wo.heap.size 2 wd (rows2 u11 u12 z m s k ps)) := Lib.hid (by rw [hwd]; exact HCX.out.drew)
              have HBd : Hid (Below wo.heap.size wo wd) := Lib.hid (by rw [hwd]; exact HBX.out.drew)
              have HZd : Hid (wo.heap.size ≤ wd.heap.size) := Lib.hid HBd.out.size
              rw [← hwd]
              clear hwd HCX HBX hc2' hc1'
              iterate 8 (refine Text.bpurek rfl rfl (fun K hK => ⟨_, fun w' => by go_simp <;> rfl, ?_⟩); go_simp; refine hK _ ?_; clear hK K)
              have hcd := cell_kept HBd.out HC2.out
              have hcd1 := cell_kept HBd.out HC1.out
              (refine Text.bheldk rfl rfl (fun K hK => ⟨_, fun w' hw' => by have h9 := hw'.1; go_simp <;> rfl, ?_⟩); go_simp; refine hK _ ?_; clear hK K)
              (refine Text.bheldk rfl rfl (fun K hK => ⟨_, fun w' hw' => by have h9 := hw'.2; go_simp <;> rfl, ?_⟩); go_simp; refine hK _ ?_; clear hK K)
              refine Text.bfork ?_ ?_
              · refine Text.beff rfl rfl (fun K hK => ?_)
                go_simp
                obtain ⟨gI, hgI⟩ : ∃ g, g = wd.heap.size := ⟨_, rfl⟩
                obtain ⟨wa1, hwwa1⟩ : ∃ w' : World, w' = wd.alloc (.cells #[.int .i64 (gN z k : Int)] 3) := ⟨_, rfl⟩
                have kb1 : Below wd.heap.size wd wa1 := by rw [hwwa1]; exact (Below.refl _ _).alloc (Nat.le_refl _) _
                have HGI1 : Hid (Blk wa1 gI 3 #[.int .i64 (gN z k : Int)]) := Lib.hid (by rw [hwwa1, hgI]; exact Blk.new _ _ _)
                have HCa1 := Lib.hid (HCd.out.kept kb1)
                have HBa1 : Hid (Below wo.heap.size wo wa1) := Lib.hid (below_then HBd.out kb1)
                rw [← hwwa1, ← hgI]
                refine hK _ _ ⟨cell_kept HBa1.out HC1.out, cell_kept HBa1.out HC2.out⟩ ?_
                clear hK K kb1 hwwa1 hgI
                refine Text.bfork ?_ ?_
                · refine Text.beff rfl rfl (fun K hK => ?_)
                  refine wp_app1 wa1 (.tmp 35) (.tmp 40) 37 3 (.int .i64 0) 8 Try.underlying37 infoInt rfl rfl wo.heap.size u11 (selN z s true k).length ((ints (selN z s true k)).map (Value.int .i64)) rfl (HCa1.out.own 0 (by omega)) gI 1 3 (.int .i64 (gN z k : Int)) rfl HGI1.out rfl (by omega) (by omega) HBa1.out.size ?_
                  intro va2 wa2 hp2
                  have HCa2 := Lib.hid (HCa1.out.app (i := 0) (by omega) rfl rfl hp2)
                  have HBa2 : Hid (Below wo.heap.size wo wa2) := Lib.hid (HCa1.out.app_below (i := 0) (by omega) rfl hp2 HBa1.out HBa1.out.size)
                  refine hK _ _ ⟨cell_kept HBa2.out HC1.out, cell_kept HBa2.out HC2.out⟩ ?_
                  clear hK K hp2
                  refine Text.beff rfl rfl (fun K hK => ?_)
                  go_simp
                  obtain ⟨gS, hgS⟩ : ∃ g, g = wa2.heap.size := ⟨_, rfl⟩
                  obtain ⟨wa3, hwwa3⟩ : ∃ w' : World, w' = wa2.alloc (.cells #[.slice A2 n2 c2] 22) := ⟨_, rfl⟩
                  have kb3 : Below wa2.heap.size wa2 wa3 := by rw [hwwa3]; exact (Below.refl _ _).alloc (Nat.le_refl _) _
                  have HGS3 : Hid (Blk wa3 gS 22 #[.slice A2 n2 c2]) := Lib.hid (by rw [hwwa3, hgS]; exact Blk.new _ _ _)
                  have HCa3 := Lib.hid (HCa2.out.kept kb3)
                  have HBa3 : Hid (Below wo.heap.size wo wa3) := Lib.hid (below_then HBa2.out kb3)
                  rw [← hwwa3, ← hgS]
                  refine hK _ _ ⟨cell_kept HBa3.out HC1.out, cell_kept HBa3.out HC2.out⟩ ?_
                  clear hK K kb3 hwwa3 hgS
                  refine Text.beff rfl rfl (fun K hK => ?_)
                  refine wp_app1 wa3 (.tmp 42) (.tmp 47) 30 22 (.slice none 0 0) 24 Try.underlying30 infoBytes rfl rfl wo.heap.size u12 (selM m s true k).length ps rfl (HCa3.out.own 1 (by omega)) gS 1 22 (.slice A2 n2 c2) rfl HGS3.out rfl (by omega) (by omega) HBa3.out.size ?_
                  intro va4 wa4 hp4
                  have HCa4 := Lib.hid (HCa3.out.app (i := 1) (by omega) rfl rfl hp4)
                  have HBa4 : Hid (Below wo.heap.size wo wa4) := Lib.hid (HCa3.out.app_below (i := 1) (by omega) rfl hp4 HBa3.out HBa3.out.size)
                  refine hK _ _ ⟨cell_kept HBa4.out HC1.out, cell_kept HBa4.out HC2.out⟩ ?_
                  clear hK K hp4
                  iterate 2 (refine Text.bpurek rfl rfl (fun K hK => ⟨_, fun w' => by go_simp <;> rfl, ?_⟩); go_simp; refine hK _ ?_; clear hK K)
                  refine Text.bdone ?_
                  have HPT := Lib.hid (RpI.push HBT.out HCa4.out HBa4.out HP2.out HR2.out)
                  go_wp2_with fail
                  go_roundw
                  case rel => exact ⟨k + 1, by omega, by go_num, HPT⟩
                  case measure => simp [intOf]; omega
                · refine Text.beff rfl rfl (fun K hK => ?_)
                  go_simp
                  obtain ⟨gS, hgS⟩ : ∃ g, g = wa1.heap.size := ⟨_, rfl⟩
                  obtain ⟨wb2, hwwb2⟩ : ∃ w' : World, w' = wa1.alloc (.cells #[.slice A2 n2 c2] 22) := ⟨_, rfl⟩
                  have kb2 : Below wa1.heap.size wa1 wb2 := by rw [hwwb2]; exact (Below.refl _ _).alloc (Nat.le_refl _) _
                  have HGS2 : Hid (Blk wb2 gS 22 #[.slice A2 n2 c2]) := Lib.hid (by rw [hwwb2, hgS]; exact Blk.new _ _ _)
                  have HGI2 := Lib.hid (HGI1.out.kept kb2)
                  have HCb2 := Lib.hid (HCa1.out.kept kb2)
                  have HBb2 : Hid (Below wo.heap.size wo wb2) := Lib.hid (below_then HBa1.out kb2)
                  rw [← hwwb2, ← hgS]
                  refine hK _ _ ⟨cell_kept HBb2.out HC1.out, cell_kept HBb2.out HC2.out⟩ ?_
                  clear hK K kb2 hwwb2 hgS
                  refine Text.beff rfl rfl (fun K hK => ?_)
                  refine wp_app1 wb2 (.tmp 35) (.tmp 40) 37 3 (.int .i64 0) 8 Try.underlying37 infoInt rfl rfl wo.heap.size u11 (selN z s true k).length ((ints (selN z s true k)).map (Value.int .i64)) rfl (HCb2.out.own 0 (by omega)) gI 1 3 (.int .i64 (gN z k : Int)) rfl HGI2.out rfl (by omega) (by omega) HBb2.out.size ?_
                  intro vb3 wb3 hp3
                  have HCb3 := Lib.hid (HCb2.out.app (i := 0) (by omega) rfl rfl hp3)
                  have HBb3 : Hid (Below wo.heap.size wo wb3) := Lib.hid (HCb2.out.app_below (i := 0) (by omega) rfl hp3 HBb2.out HBb2.out.size)
                  have HGS3 := Lib.hid (grown_blk hp3.2.1 HGS2.out (own_ne (e := 3) (HCb2.out.own 0 (by omega)) HGS2.out (by decide)))
                  refine hK _ _ ⟨cell_kept HBb3.out HC1.out, cell_kept HBb3.out HC2.out⟩ ?_
                  clear hK K hp3
                  refine Text.beff rfl rfl (fun K hK => ?_)
                  refine wp_app1 wb3 (.tmp 42) (.tmp 47) 30 22 (.slice none 0 0) 24 Try.underlying30 infoBytes rfl rfl wo.heap.size u12 (selM m s true k).length ps rfl (HCb3.out.own 1 (by omega)) gS 1 22 (.slice A2 n2 c2) rfl HGS3.out rfl (by omega) (by omega) HBb3.out.size ?_
                  intro vb4 wb4 hp4
                  have HCb4 := Lib.hid (HCb3.out.app (i := 1) (by omega) rfl rfl hp4)
                  have HBb4 : Hid (Below wo.heap.size wo wb4) := Lib.hid (HCb3.out.app_below (i := 1) (by omega) rfl hp4 HBb3.out HBb3.out.size)
                  refine hK _ _ ⟨cell_kept HBb4.out HC1.out, cell_kept HBb4.out HC2.out⟩ ?_
                  clear hK K hp4
                  iterate 2 (refine Text.bpurek rfl rfl (fun K hK => ⟨_, fun w' => by go_simp <;> rfl, ?_⟩); go_simp; refine hK _ ?_; clear hK K)
                  refine Text.bdone ?_
                  have HPT := Lib.hid (RpI.push HBT.out HCb4.out HBb4.out HP2.out HR2.out)
                  go_wp2_with fail
                  go_roundw
                  case rel => exact ⟨k + 1, by omega, by go_num, HPT⟩
                  case measure => simp [intOf]; omega
              · refine Text.beff rfl rfl (fun K hK => ?_)
                go_simp
                obtain ⟨gS, hgS⟩ : ∃ g, g = wd.heap.size := ⟨_, rfl⟩
                obtain ⟨wc1, hwwc1⟩ : ∃ w' : World, w' = wd.alloc (.cells #[.slice A2 n2 c2] 22) := ⟨_, rfl⟩
                have kb1 : Below wd.heap.size wd wc1 := by rw [hwwc1]; exact (Below.refl _ _).alloc (Nat.le_refl _) _
                have HGS1 : Hid (Blk wc1 gS 22 #[.slice A2 n2 c2]) := Lib.hid (by rw [hwwc1, hgS]; exact Blk.new _ _ _)
                have HCc1 := Lib.hid (HCd.out.kept kb1)
                have HBc1 : Hid (Below wo.heap.size wo wc1) := Lib.hid (below_then HBd.out kb1)
                rw [← hwwc1, ← hgS]
                refine hK _ _ ⟨cell_kept HBc1.out HC1.out, cell_kept HBc1.out HC2.out⟩ ?_
                clear hK K kb1 hwwc1 hgS
                refine Text.beff rfl rfl (fun K hK => ?_)
                go_simp
                obtain ⟨gI, hgI⟩ : ∃ g, g = wc1.heap.size := ⟨_, rfl⟩
                obtain ⟨wc2, hwwc2⟩ : ∃ w' : World, w' = wc1.alloc (.cells #[.int .i64 (gN z k : Int)] 3) := ⟨_, rfl⟩
                have kb2 : Below wc1.heap.size wc1 wc2 := by rw [hwwc2]; exact (Below.refl _ _).alloc (Nat.le_refl _) _
                have HGI2 : Hid (Blk wc2 gI 3 #[.int .i64 (gN z k : Int)]) := Lib.hid (by rw [hwwc2, hgI]; exact Blk.new _ _ _)
                have HGS2 := Lib.hid (HGS1.out.kept kb2)
                have HCc2 := Lib.hid (HCc1.out.kept kb2)
                have HBc2 : Hid (Below wo.heap.size wo wc2) := Lib.hid (below_then HBc1.out kb2)
                rw [← hwwc2, ← hgI]
                refine hK _ _ ⟨cell_kept HBc2.out HC1.out, cell_kept HBc2.out HC2.out⟩ ?_
                clear hK K kb2 hwwc2 hgI
                refine Text.beff rfl rfl (fun K hK => ?_)
                refine wp_app1 wc2 (.tmp 35) (.tmp 40) 37 3 (.int .i64 0) 8 Try.underlying37 infoInt rfl rfl wo.heap.size u11 (selN z s true k).length ((ints (selN z s true k)).map (Value.int .i64)) rfl (HCc2.out.own 0 (by omega)) gI 1 3 (.int .i64 (gN z k : Int)) rfl HGI2.out rfl (by omega) (by omega) HBc2.out.size ?_
                intro vc3 wc3 hp3
                have HCc3 := Lib.hid (HCc2.out.app (i := 0) (by omega) rfl rfl hp3)
                have HBc3 : Hid (Below wo.heap.size wo wc3) := Lib.hid (HCc2.out.app_below (i := 0) (by omega) rfl hp3 HBc2.out HBc2.out.size)
                have HGS3 := Lib.hid (grown_blk hp3.2.1 HGS2.out (own_ne (e := 3) (HCc2.out.own 0 (by omega)) HGS2.out (by decide)))
                refine hK _ _ ⟨cell_kept HBc3.out HC1.out, cell_kept HBc3.out HC2.out⟩ ?_
                clear hK K hp3
                refine Text.beff rfl rfl (fun K hK => ?_)
                refine wp_app1 wc3 (.tmp 42) (.tmp 47) 30 22 (.slice none 0 0) 24 Try.underlying30 infoBytes rfl rfl wo.heap.size u12 (selM m s true k).length ps rfl (HCc3.out.own 1 (by omega)) gS 1 22 (.slice A2 n2 c2) rfl HGS3.out rfl (by omega) (by omega) HBc3.out.size ?_
                intro vc4 wc4 hp4
                have HCc4 := Lib.hid (HCc3.out.app (i := 1) (by omega) rfl rfl hp4)
                have HBc4 : Hid (Below wo.heap.size wo wc4) := Lib.hid (HCc3.out.app_below (i := 1) (by omega) rfl hp4 HBc3.out HBc3.out.size)
                refine hK _ _ ⟨cell_kept HBc4.out HC1.out, cell_kept HBc4.out HC2.out⟩ ?_
                clear hK K hp4
                iterate 2 (refine Text.bpurek rfl rfl (fun K hK => ⟨_, fun w' => by go_simp <;> rfl, ?_⟩); go_simp; refine hK _ ?_; clear hK K)
                refine Text.bdone ?_
                have HPT := Lib.hid (RpI.push HBT.out HCc4.out HBc4.out HP2.out HR2.out)
                go_wp2_with fail
                go_roundw
                case rel => exact ⟨k + 1, by omega, by go_num, HPT⟩
                case measure => simp [intOf]; omega
        · obtain rfl : k = n := by omega
          obtain ⟨ps, hc, hb, hp2⟩ := hpt.out
          have hsl := sel_le z s true k
          have HSL : Hid ((selM m s true k).length = (selN z s true k).length) := Lib.hid (sel_length z m s true k)
          obtain ⟨A1, c1, e1, his⟩ := hc.is (i := 0) (by omega) rfl (by unfold lim; omega)
          obtain ⟨A2, c2, e2, hms⟩ := hc.ms hb (i := 1) (by omega) rfl hp2 rfl (by have := HSL.out; unfold lim; omega)
          rw [HSL.out] at hms e2
          subst e1 e2
          have HS1 := Lib.hid his
          have HS2 := Lib.hid hms
          have HBW := Lib.hid (below_then hB.out hb)
          have HIW := Lib.hid (HI.out.kept HBW.out)
          have HMW := Lib.hid (HM.out.kept HBW.out)
          obtain ⟨q, hq⟩ : ∃ q, q = (selN z s true k).length := ⟨_, rfl⟩
          rw [← hq] at HS1 HS2 hsl ⊢
          have HQ := Lib.hid hq
          clear hc hb hp2 his hms hpt HR0 HSL hq
          by_cases hqd : q = d
          · have q2 : ((q : Int) != (d : Int)) = false := by simp [hqd]
            have HQD := Lib.hid hqd
            have HGS : Hid (GvOk d t d (selN z s true k) (selM m s true k) L) := Lib.hid (by
              have h1 : cnt (fun j => s.testBit j == true) k = d := by rw [← slN_length z, ← selN_eq, ← HQ.out, HQD.out]
              have h2 := HK.out.sl (fun j => s.testBit j == true) (by omega)
              rw [← selN_eq, ← selM_eq, h1] at h2
              exact h2)
            have hqd' := hqd.symm
            clear hqd
            subst hqd'
            go_wp2_with fail
            refine (rrec_any d A1 A2 d c1 d c2 (selN z s true k) (selM m s true k) L wr HS1.out HS2.out HGS.out.rect HGS.out.L0 HGS.out.L6 HGS.out.d1 HGS.out.d8 (Nat.le_refl _) (Nat.le_refl _) HGS.out.lt16).mono ?_
            rintro e w5 ⟨A5, c5, rfl, hm5, hb5⟩
            rw [HGS.out.recEq] at hm5
            have HX5 : Hid (MS w5 A5 d c5 (rfX z m d L k s)) := Lib.hid hm5
            have HI5 := Lib.hid (HIW.out.kept hb5)
            have HM5 := Lib.hid (HMW.out.kept hb5)
            have HB5 := Lib.hid (below_then HBW.out hb5)
            clear hm5 hb5 HIW HMW HBW HS1 HS2
            go_wp2_with fail
            refine (wrong_any d t A A' A5 k c c' d c5 z m (rfX z m d L k s) L w5 HI5.out HM5.out HX5.out (recM_rect HGS.out.rect HGS.out.dz HGS.out.dm) HK.out.d1 (Nat.le_refl _) HK.out.d8 HK.out.t16 (by omega) HK.out.L6).mono ?_
            rintro e w6 ⟨v6, rfl, ho6, hb6⟩
            obtain ⟨A6, c6, rfl⟩ := own_slice ho6
            have HO6 := Lib.hid (ownsRow_base ho6 HB5.out.size)
            have HB6 := Lib.hid (below_then HB5.out hb6)
            obtain ⟨r, hr⟩ : ∃ r, r = (wrA d z m (rfX z m d L k s) L k t).length := ⟨_, rfl⟩
            rw [← hr] at HO6 ⊢
            have HRL := Lib.hid hr
            clear ho6 hb6 hr HI5 HM5 HX5 HB5
            by_cases hrx : r ≤ x
            · have q3 : decide ((r : Int) ≤ ((k : Int) - (d : Int)) / 2) = true := by rw [HEX.out]; simp; exact hrx
              have HRET : Hid (RlRet z m d L k t w (.returned (.tuple #[.slice A6 r c6, .bool true])) w6) := Lib.hid ⟨HB6.out, .inl ⟨s, _, by have := HN.out; omega, by
                unfold rfH
                rw [← HQ.out, ← HRL.out, decide_eq_true rfl, ← HX.out, decide_eq_true hrx]; rfl, rfl, by rw [← HRL.out]; exact HO6.out⟩⟩
              clear hrx HO6 HB6
              go_wp2_with fail
              go_ret2
              exact HRET.out
            · have q3 : decide ((r : Int) ≤ ((k : Int) - (d : Int)) / 2) = false := by rw [HEX.out]; simp; omega
              have HF : Hid (∀ s', s' < s + 1 → rfH z m d L k t s' = false) := Lib.hid (fun s' hs' => by
                rcases Nat.lt_succ_iff_lt_or_eq.1 hs' with h9 | h9
                · exact hH.out s' h9
                · subst h9
                  unfold rfH
                  rw [← HRL.out, ← HX.out, decide_eq_false hrx, Bool.and_false])
              clear hrx HO6
              go_wp2_with fail
              go_roundw
              case rel => exact ⟨s + 1, by omega, by go_num, HB6, HF⟩
              case measure => simp [intOf]; omega
          · have q2 : ((q : Int) != (d : Int)) = true := by simp; omega
            have HF : Hid (∀ s', s' < s + 1 → rfH z m d L k t s' = false) := Lib.hid (fun s' hs' => by
              rcases Nat.lt_succ_iff_lt_or_eq.1 hs' with h9 | h9
              · exact hH.out s' h9
              · subst h9
                unfold rfH
                rw [← HQ.out, decide_eq_false hqd]; rfl)
            clear hqd
            go_wp2_with fail
            go_roundw
            case rel => exact ⟨s + 1, by omega, by go_num, HBW, HF⟩
            case measure => simp [intOf]; omega
    · obtain rfl : s = N := by omega
      have q1 : decide ((s : Int) < wrap64 (2 ^ n)) = false := by rw [HEN.out]; simp
      have HR : Hid (RlRet z m d L n t w (.returned (.tuple #[.slice none 0 0, .bool false])) wr) := Lib.hid ⟨hB.out, .inr ⟨fun s' hs' => hH.out s' (by have := HN.out; omega), rfl⟩⟩
      clear hB hH
      go_wp2_with fail
      go_ret2
      exact HR.out
end Go.Proofs.Ytoeeklkebcgmaaa
