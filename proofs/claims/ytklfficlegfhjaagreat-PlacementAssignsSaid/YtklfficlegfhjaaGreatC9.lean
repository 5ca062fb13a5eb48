/- Several texts in one: Lc, Ld. -/
import Derived.Test.YtklfficlegfhjaaGreatC8
import Derived.Test.YtklfficlegfhjaaGreatC6
import Derived.Test.YtklfficlegfhjaaGreatC7
import Derived.Laws.StructEq
/- The reference's Named, Used. -/
namespace Go.Proofs.YtklfficlegfhjaaGreat
open Go Go.RowKit Gf Sha

theorem LS.pl_at {w w' : World} {A : Option Addr} {n c : Nat} {ps : List Pl} (h : LS rPl 3 32 w A n c ps) (hb : Below w.heap.size w w') {i : Nat} (hi : i < n) :
  ∃ x g o, ps[i]? = some x ∧ A = some ⟨g, o, none⟩ ∧ At w' g (o + i * 3) (plL x) ∧ okPl x := by
 obtain ⟨x, g, o, cs, hs, ea, hat, ⟨rfl, hok⟩⟩ := h.at_ stay_pl hb hi
 exact ⟨x, g, o, hs, ea, hat, hok⟩
section
set_option maxRecDepth 100000
set_option maxHeartbeats 4000000
theorem rnamed_any (A : Option Addr) (n c : Nat) (ws : List Wt) (B : Option Addr) (m d : Nat) (ps : List Pl) (w : World) (h : LS rWt 4 40 w A n c ws) (hp : LS rPl 3 32 w B m d ps) :
  Calls Tryz.prog 37 #[.slice A n c, .slice B m d] w fun e w' => e = .returned (.bool (namedB ws ps)) ∧ Below w.heap.size w w' := by
 have hn := h.len_le
 have hm := hp.len_le
 have H := Lib.hid h
 have HP := Lib.hid hp
 have HL := Lib.hid hp.1
 clear h hp
 go_enter Tryz.func37, Tryz.ntmps37
 go_wp2_with fail
 go_loopw [5] (fun iv wr => ∃ k : Nat, k ≤ m ∧ iv = .int .i64 (k : Int) ∧ Hid (∀ x ∈ ps.take k, nameB ws x = true) ∧ Hid (Below w.heap.size w wr)) (fun iv _ => m - (intOf iv).toNat)
 case atStart => exact ⟨0, by omega, rfl, Lib.hid (fun x hx => by simp at hx), Lib.hid (Below.refl _ _)⟩
 case round =>
  obtain ⟨k, hk, rfl, hall, hb⟩ := hrel
  obtain ⟨wx, hwx⟩ : ∃ x, x = wr := ⟨_, rfl⟩
  rw [← hwx] at hb ⊢
  clear hwx
  by_cases hlt : k < m
  ·
   obtain ⟨x, g, o, hs, ea, hat, hok⟩ := HP.out.pl_at hb.out hlt
   subst ea
   have HX := Lib.hid hs
   have q0 : wx.cell? ⟨g, o + k * 3, none⟩ = some (.string (strB x.st)) := hat 0 _ rfl
   have q1 : wx.drew.cell? ⟨g, o + k * 3 + 1, none⟩ = some (.int .i64 x.ix) := hat 1 _ rfl
   have HF : Hid (nameB ws x = false → namedB ws ps = false) := Lib.hid (fun h1 => by
    unfold namedB
    exact List.all_eq_false.2 ⟨x, List.mem_of_getElem? hs, by rw [h1]; decide⟩)
   have HT : Hid (nameB ws x = true → ∀ y ∈ ps.take (k + 1), nameB ws y = true) := Lib.hid (fun h1 y hy => by
    rw [take_next HX.out] at hy
    rcases List.mem_append.1 hy with h | h
    ·
     exact hall.out y h
    ·
     rw [List.mem_singleton.1 h]; exact h1)
   have HLx := Lib.hid (H.out.kept stay_wt hb.out)
   clear hs hat hok
   rcases fdI_cases ws x.st with ⟨hz, hwn⟩ | ⟨i, y, hz, hy, hwy⟩
   ·
    have HZ := Lib.hid hz
    have HR : Hid (namedB ws ps = false) := Lib.hid (HF.out (by unfold nameB; rw [hwn]))
    clear hz hwn
    go_wp2_with (first
     | (go_at_call 17; refine (rfind_any A n c ws x.st wx HLx.out).mono ?_; rintro e w2 ⟨rfl, hw⟩; rw [hw, HZ.out]; clear hw w2))
    refine Text.wp_region_text (fun _ => True) [(0, 4), (1, 4), (2, 4), (3, 4), (4, 4), (5, 4), (6, 4), (7, 4), (8, 4), (9, 4), (10, 4), (11, 4), (12, 4), (13, 4), (14, 4), (15, 4), (16, 4), (17, 4), (18, 4), (19, 4), (20, 4), (21, 4), (22, 4), (23, 4), (24, 4)] (by kernel_rfl) (by kernel_rfl) (fun _ _ _ _ _ h => h) (trivial) ?_
    iterate 3 (refine Text.purek rfl rfl (fun K hK => ⟨_, fun w' => by go_simp <;> rfl, ?_⟩); go_simp; refine hK _ ?_; clear hK K)
    iterate 7 (refine Text.skipk (.inr (.inr rfl)) rfl rfl (fun K hK => ?_); go_simp; refine hK _ ?_; clear hK K)
    iterate 2 (refine Text.purek rfl rfl (fun K hK => ⟨_, fun w' => by go_simp <;> rfl, ?_⟩); go_simp; refine hK _ ?_; clear hK K)
    iterate 12 (refine Text.skipk (.inr (.inr rfl)) rfl rfl (fun K hK => ?_); go_simp; refine hK _ ?_; clear hK K)
    (refine Text.purek rfl rfl (fun K hK => ⟨_, fun w' => by go_simp <;> rfl, ?_⟩); go_simp; refine hK _ ?_; clear hK K)
    refine Text.done ?_
    go_wp2_with fail
    go_ret
    exact ⟨by rw [HR.out]; rfl, hb.out.drew⟩
   ·
    have HZ := Lib.hid hz
    obtain ⟨gw, ow, eA, hin, hatw⟩ := HLx.out.wt_at (Below.refl _ _) hy
    subst eA
    have q2 : wx.drew.cell? ⟨gw, ow + i * 4 + 3, none⟩ = some (.int .i64 y.to) := hatw 3 _ rfl
    have hi0 : ¬ (i : Int) < 0 := by omega
    have hinI : (i : Int) < (n : Int) := by omega
    have HN : Hid (nameB ws x = decide (0 ≤ x.ix ∧ x.ix < y.to)) := Lib.hid (by unfold nameB; rw [hwy])
    clear hz hwy hatw hy
    cases f1 : decide (x.ix < 0) with
    | true =>
     have HR : Hid (namedB ws ps = false) := Lib.hid (HF.out (by rw [HN.out]; have := of_decide_eq_true f1; rw [decide_eq_false]; omega))
     go_wp2_with (first
      | (go_at_call 17; refine (rfind_any _ n c ws x.st wx HLx.out).mono ?_; rintro e w2 ⟨rfl, hw⟩; rw [hw, HZ.out]; clear hw w2))
     refine Text.wp_region_text (fun _ => True) [(0, 4), (1, 4), (2, 4), (3, 4), (4, 4), (5, 4), (6, 4), (7, 4), (8, 1), (9, 4), (10, 4), (11, 4), (12, 4), (13, 4), (14, 4), (15, 4), (16, 4), (17, 4), (18, 4), (19, 4), (20, 4), (21, 4), (22, 4), (23, 4), (24, 4)] (by kernel_rfl) (by kernel_rfl) (fun _ _ _ _ _ h => h) (trivial) ?_
     iterate 8 (refine Text.purek rfl rfl (fun K hK => ⟨_, fun w' => by go_simp <;> rfl, ?_⟩); go_simp; refine hK _ ?_; clear hK K)
     (refine Text.readk rfl rfl (fun K hK => ⟨_, by go_simp <;> rfl, ?_⟩); go_simp; refine hK _ ?_; clear hK K)
     iterate 3 (refine Text.purek rfl rfl (fun K hK => ⟨_, fun w' => by go_simp <;> rfl, ?_⟩); go_simp; refine hK _ ?_; clear hK K)
     iterate 12 (refine Text.skipk (.inr (.inr rfl)) rfl rfl (fun K hK => ?_); go_simp; refine hK _ ?_; clear hK K)
     (refine Text.purek rfl rfl (fun K hK => ⟨_, fun w' => by go_simp <;> rfl, ?_⟩); go_simp; refine hK _ ?_; clear hK K)
     refine Text.done ?_
     go_wp2_with fail
     go_ret
     exact ⟨by rw [HR.out]; rfl, hb.out.drew⟩
    | false =>
     cases f2 : decide (x.ix ≥ y.to) with
     | true =>
      have HR : Hid (namedB ws ps = false) := Lib.hid (HF.out (by rw [HN.out]; have := of_decide_eq_true f2; rw [decide_eq_false]; omega))
      go_wp2_with (first
       | (go_at_call 17; refine (rfind_any _ n c ws x.st wx HLx.out).mono ?_; rintro e w2 ⟨rfl, hw⟩; rw [hw, HZ.out]; clear hw w2))
      refine Text.wp_region_text (fun _ => True) [(0, 4), (1, 4), (2, 4), (3, 4), (4, 4), (5, 4), (6, 4), (7, 4), (8, 1), (9, 4), (10, 4), (11, 4), (12, 4), (13, 4), (14, 4), (15, 4), (16, 4), (18, 4), (19, 4), (20, 4), (21, 4), (17, 1), (22, 1), (23, 4), (24, 4)] (by kernel_rfl) (by kernel_rfl) (fun _ _ _ _ _ h => h) (trivial) ?_
      iterate 8 (refine Text.purek rfl rfl (fun K hK => ⟨_, fun w' => by go_simp <;> rfl, ?_⟩); go_simp; refine hK _ ?_; clear hK K)
      (refine Text.readk rfl rfl (fun K hK => ⟨_, by go_simp <;> rfl, ?_⟩); go_simp; refine hK _ ?_; clear hK K)
      iterate 12 (refine Text.purek rfl rfl (fun K hK => ⟨_, fun w' => by go_simp <;> rfl, ?_⟩); go_simp; refine hK _ ?_; clear hK K)
      iterate 2 (refine Text.readk rfl rfl (fun K hK => ⟨_, by go_simp <;> rfl, ?_⟩); go_simp; refine hK _ ?_; clear hK K)
      iterate 2 (refine Text.purek rfl rfl (fun K hK => ⟨_, fun w' => by go_simp <;> rfl, ?_⟩); go_simp; refine hK _ ?_; clear hK K)
      refine Text.done ?_
      go_wp2_with fail
      go_ret
      exact ⟨by rw [HR.out]; rfl, hb.out.drew⟩
     | false =>
      have HA := Lib.hid (HT.out (by rw [HN.out]; have := of_decide_eq_false f1; have := of_decide_eq_false f2; rw [decide_eq_true]; omega))
      go_wp2_with (first
       | (go_at_call 17; refine (rfind_any _ n c ws x.st wx HLx.out).mono ?_; rintro e w2 ⟨rfl, hw⟩; rw [hw, HZ.out]; clear hw w2))
      refine Text.wp_region_text (fun _ => True) [(0, 4), (1, 4), (2, 4), (3, 4), (4, 4), (5, 4), (6, 4), (7, 4), (8, 1), (9, 4), (10, 4), (11, 4), (12, 4), (13, 4), (14, 4), (15, 4), (16, 4), (18, 4), (19, 4), (20, 4), (21, 4), (17, 1), (22, 1), (23, 4), (24, 4)] (by kernel_rfl) (by kernel_rfl) (fun _ _ _ _ _ h => h) (trivial) ?_
      iterate 8 (refine Text.purek rfl rfl (fun K hK => ⟨_, fun w' => by go_simp <;> rfl, ?_⟩); go_simp; refine hK _ ?_; clear hK K)
      (refine Text.readk rfl rfl (fun K hK => ⟨_, by go_simp <;> rfl, ?_⟩); go_simp; refine hK _ ?_; clear hK K)
      iterate 12 (refine Text.purek rfl rfl (fun K hK => ⟨_, fun w' => by go_simp <;> rfl, ?_⟩); go_simp; refine hK _ ?_; clear hK K)
      iterate 2 (refine Text.readk rfl rfl (fun K hK => ⟨_, by go_simp <;> rfl, ?_⟩); go_simp; refine hK _ ?_; clear hK K)
      iterate 2 (refine Text.purek rfl rfl (fun K hK => ⟨_, fun w' => by go_simp <;> rfl, ?_⟩); go_simp; refine hK _ ?_; clear hK K)
      refine Text.done ?_
      go_wp2_with fail
      go_roundw
      case rel => exact ⟨k + 1, by omega, by go_num, HA, Lib.hid hb.out.drew⟩
      case measure => simp [intOf]; omega
  ·
   obtain rfl : k = m := by omega
   have HR : Hid (namedB ws ps = true) := Lib.hid (List.all_eq_true.2 (fun x hx => hall.out x (by rw [take_end HL.out]; exact hx)))
   go_wp2_with fail
   go_ret
   exact ⟨by rw [HR.out]; rfl, hb.out⟩
theorem rused_any (A : Option Addr) (n c : Nat) (ws : List Wt) (B : Option Addr) (m d : Nat) (ps : List Pl) (dv : Int) (w : World) (h : LS rWt 4 40 w A n c ws) (hp : LS rPl 3 32 w B m d ps) (hw : wantsB ws = true) (hmm : m ≤ 100000) :
  Calls Tryz.prog 40 #[.slice A n c, .slice B m d, .int .i64 dv] w fun e w' => e = .returned (.int .i64 (usedI ws ps dv)) ∧ w' = w := by
 have hn := h.len_le
 have H := Lib.hid h
 have HP := Lib.hid hp
 have HL := Lib.hid hp.1
 have HW := Lib.hid hw
 clear h hp hw
 go_enter Tryz.func40, Tryz.ntmps40
 go_wp2_with fail
 go_loopw [7, 8] (fun sv iv wr => w = wr ∧ ∃ (k : Nat) (s : Int), k ≤ m ∧ iv = .int .i64 (k : Int) ∧ sv = .int .i64 s ∧ Hid (s = usedI ws (ps.take k) dv)) (fun _ iv _ => m - (intOf iv).toNat)
 case atStart => exact ⟨rfl, 0, 0, by omega, rfl, rfl, Lib.hid rfl⟩
 case round =>
  obtain ⟨rfl, k, s, hk, rfl, rfl, hs⟩ := hrel
  by_cases hlt : k < m
  ·
   obtain ⟨x, g, o, hx, ea, hat, _⟩ := HP.out.pl_at (Below.refl _ _) hlt
   subst ea
   have HU := Lib.hid (used_take (ws := ws) hx dv)
   have hr1 := used_rng HW.out ps dv k
   rw [← hs.out] at hr1
   have q0 : w.cell? ⟨g, o + k * 3, none⟩ = some (.string (strB x.st)) := hat 0 _ rfl
   have q1 : w.cell? ⟨g, o + k * 3 + 2, none⟩ = some (.int .i64 x.dv) := hat 2 _ rfl
   have HS := hs
   clear hat hx hs
   rcases fdI_cases ws x.st with ⟨hz, hwn⟩ | ⟨i, y, hz, hy, hwy⟩
   ·
    have HZ := Lib.hid hz
    have h0 : szOf ws x.st = 0 := by unfold szOf; rw [hwn]
    have HN : Hid (s = usedI ws (ps.take (k + 1)) dv) := Lib.hid (by rw [HU.out, ← HS.out, h0]; split <;> omega)
    clear h0
    clear hz hwn hr1
    go_wp2_with (first
     | (go_at_call 17; refine (rfind_any A n c ws x.st w H.out).mono ?_; rintro e w2 ⟨rfl, hw⟩; rw [hw, HZ.out]; clear hw w2))
    go_roundw
    case rel => exact ⟨trivial, k + 1, s, by omega, by go_num, rfl, HN⟩
    case measure => simp [intOf]; omega
   ·
    have HZ := Lib.hid hz
    obtain ⟨gw, ow, eA, hin, hatw⟩ := H.out.wt_at (Below.refl _ _) hy
    subst eA
    have q2 : w.cell? ⟨gw, ow + i * 4 + 1, none⟩ = some (.int .i64 y.sz) := hatw 1 _ rfl
    have hi0 : (i : Int) ≥ 0 := by omega
    have hinI : (i : Int) < (n : Int) := by omega
    have hsz := wants_all HW.out (List.mem_of_getElem? hy)
    have HSZ : Hid (szOf ws x.st = y.sz) := Lib.hid (by unfold szOf; rw [hwy])
    by_cases hd : x.dv = dv
    ·
     have f1 : (x.dv == dv) = true := by rw [hd]; exact beq_self_eq_true _
     have hwr : IntKind.i64.wrap (s + y.sz) = s + y.sz := IntWalk.i64_in _ (by omega)
     have HN : Hid (s + y.sz = usedI ws (ps.take (k + 1)) dv) := Lib.hid (by rw [HU.out, ← HS.out, HSZ.out, if_pos hd])
     clear hz hwy hatw hy hd hr1 hsz
     go_wp2_with (first
      | (go_at_call 17; refine (rfind_any _ n c ws x.st w H.out).mono ?_; rintro e w2 ⟨rfl, hw⟩; rw [hw, HZ.out]; clear hw w2))
     go_roundw
     case rel => exact ⟨trivial, k + 1, s + y.sz, by omega, by go_num, rfl, HN⟩
     case measure => simp [intOf]; omega
    ·
     have f1 : (x.dv == dv) = false := by rw [beq_eq_false_iff_ne]; exact hd
     have HN : Hid (s = usedI ws (ps.take (k + 1)) dv) := Lib.hid (by rw [HU.out, ← HS.out, if_neg hd]; omega)
     clear hz hwy hatw hy hd hr1 hsz
     go_wp2_with (first
      | (go_at_call 17; refine (rfind_any _ n c ws x.st w H.out).mono ?_; rintro e w2 ⟨rfl, hw⟩; rw [hw, HZ.out]; clear hw w2))
     go_roundw
     case rel => exact ⟨trivial, k + 1, s, by omega, by go_num, rfl, HN⟩
     case measure => simp [intOf]; omega
  ·
   obtain rfl : k = m := by omega
   go_wp2_with fail
   go_ret
   have e1 : ps.take k = ps := take_end HL.out
   exact ⟨by rw [← e1, ← hs.out]; rfl, rfl⟩
end
end Go.Proofs.YtklfficlegfhjaaGreat
/- The reference's Same and Moves; lists handed over (wantsOf, holdersOf, placesOf). -/
namespace Go.Proofs.YtklfficlegfhjaaGreat
open Go Go.RowKit Gf Sha

theorem ret_bl {a b : Bool} (h : a = b) : Ending.returned (.bool a) = .returned (.bool b) := by rw [h]
abbrev piL (s : List UInt8) (i : Int) : List Value := [.string (strB s), .int .i64 i]
theorem eqIn_pi (s t : List UInt8) (i j : Int) (w : World) : (Op.equalIn 10000 78 (.agg (piL s i).toArray) (.agg (piL t j).toArray)).run Tryz.prog w = .ok (decide (s = t ∧ i = j)) w := by
 rw [run_equalIn_agg _ _ _ _ _ (by kernel_rfl) (by kernel_rfl)]
 go_simp
 rw [strB_list, strB_list]
 by_cases h1 : s = t <;> by_cases h2 : i = j <;> simp [h1, h2]
theorem eqIn_pl (p q : Pl) (w : World) : (Op.equalIn 10000 80 (.agg (plL p).toArray) (.agg (plL q).toArray)).run Tryz.prog w = .ok (decide (p = q)) w := by
 rw [run_equalIn_agg _ _ _ _ _ (by kernel_rfl) (by kernel_rfl)]
 go_simp
 rw [strB_list, strB_list]
 obtain ⟨a, b, e⟩ := p
 obtain ⟨c, d, f⟩ := q
 by_cases h1 : a = c <;> by_cases h2 : b = d <;> by_cases h3 : e = f <;> simp [h1, h2, h3]
section
set_option maxRecDepth 100000
set_option maxHeartbeats 4000000
theorem rsame_any (A : Option Addr) (n c : Nat) (m : List Pl) (A' : Option Addr) (n' c' : Nat) (d : List Pl) (w : World) (hm : LS rPl 3 32 w A n c m) (hd : LS rPl 3 32 w A' n' c' d) :
  Calls Tryz.prog 21 #[.slice A n c, .slice A' n' c'] w fun e w' => e = .returned (.bool (decide (m = d))) ∧ Below w.heap.size w w' := by
 have hn := hm.len_le
 have H := Lib.hid hm
 have HD := Lib.hid hd
 have HL := Lib.hid hm.1
 have HL' := Lib.hid hd.1
 clear hm hd
 by_cases h0 : n = n'
 rotate_left
 ·
  have e0 : ((n : Int) != (n' : Int)) = true := by rw [bne_iff_ne]; omega
  have e0' : (n != n') = true := by rw [bne_iff_ne]; omega
  have HF : Hid (decide (m = d) = false) := Lib.hid (decide_eq_false (fun e => h0 (by rw [← HL.out, ← HL'.out, e])))
  clear h0
  go_enter Tryz.func21, Tryz.ntmps21
  go_wp2_with fail
  go_ret
  exact ⟨ret_bl HF.out.symm, Below.refl _ _⟩
 subst h0
 go_enter Tryz.func21, Tryz.ntmps21
 go_wp2_with fail
 go_loopw [5] (fun iv wr => ∃ k : Nat, k ≤ n ∧ iv = .int .i64 (k : Int) ∧ Hid (∀ j, j < k → m[j]? = d[j]?) ∧ Hid (Below w.heap.size w wr)) (fun iv _ => n - (intOf iv).toNat)
 case atStart => exact ⟨0, by omega, rfl, Lib.hid (fun j hj => absurd hj (by omega)), Lib.hid (Below.refl _ _)⟩
 case round =>
  obtain ⟨k, hk, rfl, hall, hb⟩ := hrel
  by_cases hlt : k < n
  ·
   obtain ⟨x, g, o, hx, rfl, hat, _⟩ := H.out.pl_at (Below.refl _ _) hlt
   obtain ⟨y, g', o', hy, rfl, hat', _⟩ := HD.out.pl_at (Below.refl _ _) hlt
   have p1 := Lib.hid (hat.kept hb.out)
   have p2 := Lib.hid (hat'.kept hb.out)
   have HX := Lib.hid hx
   have HY := Lib.hid hy
   clear hx hy hat hat'
   by_cases h1 : x = y
   ·
    have er : ∀ w, (Op.equalIn 10000 80 (.agg (plL x).toArray) (.agg (plL y).toArray)).run Tryz.prog w = .ok true w := fun w => by rw [eqIn_pl, decide_eq_true h1]
    have HF : Hid (∀ j, j < k + 1 → m[j]? = d[j]?) := Lib.hid (fun j hj => by
     rcases Nat.lt_succ_iff_lt_or_eq.1 hj with h | rfl
     ·
      exact hall.out j h
     ·
      rw [HX.out, HY.out, h1])
    clear h1
    go_wp2_with fail
    have p3 := Lib.hid (p1.out.kept (Below.refl _ _).drew)
    have p4 := Lib.hid (p2.out.kept (Below.refl _ _).drew)
    refine Text.wp_region_text (fun w' => At w' g (o + k * 3) (plL x) ∧ At w' g' (o' + k * 3) (plL y)) [(0, 4), (1, 4), (2, 4), (4, 4), (5, 4), (6, 4), (3, 0), (7, 0), (8, 4)] (by kernel_rfl) (by kernel_rfl) (fun _ _ _ _ _ h => h) (⟨p3.out, p4.out⟩) ?_
    iterate 6 (refine Text.purek rfl rfl (fun K hK => ⟨_, fun w' => by go_simp <;> rfl, ?_⟩); go_simp; refine hK _ ?_; clear hK K)
    refine Text.heldk rfl rfl (fun K hK => ?_)
    refine ⟨_, fun w' hw' => exec_loadv 80 (.tmp 19) rfl 3 (by kernel_rfl) g (o + k * 3) (plL x) (by go_simp) hw'.1 rfl, ?_⟩
    go_simp
    refine hK _ ?_
    clear hK K
    refine Text.heldk rfl rfl (fun K hK => ?_)
    refine ⟨_, fun w' hw' => exec_loadv 80 (.tmp 23) rfl 3 (by kernel_rfl) g' (o' + k * 3) (plL y) (by go_simp) hw'.2 rfl, ?_⟩
    go_simp
    refine hK _ ?_
    clear hK K
    (refine Text.purek rfl rfl (fun K hK => ⟨_, fun w' => by go_simp <;> rfl, ?_⟩); go_simp; refine hK _ ?_; clear hK K)
    refine Text.done ?_
    go_wp2_with fail
    go_roundw
    case rel => exact ⟨k + 1, by omega, by go_num, HF, Lib.hid hb.out.drew⟩
    case measure => simp [intOf]; omega
   ·
    have er : ∀ w, (Op.equalIn 10000 80 (.agg (plL x).toArray) (.agg (plL y).toArray)).run Tryz.prog w = .ok false w := fun w => by rw [eqIn_pl, decide_eq_false h1]
    have HF : Hid (decide (m = d) = false) := Lib.hid (decide_eq_false (fun e => h1 (by
     have h2 := HX.out
     rw [e, HY.out] at h2
     cases h2; rfl)))
    clear h1
    go_wp2_with fail
    have p3 := Lib.hid (p1.out.kept (Below.refl _ _).drew)
    have p4 := Lib.hid (p2.out.kept (Below.refl _ _).drew)
    refine Text.wp_region_text (fun w' => At w' g (o + k * 3) (plL x) ∧ At w' g' (o' + k * 3) (plL y)) [(0, 4), (1, 4), (2, 4), (4, 4), (5, 4), (6, 4), (3, 0), (7, 0), (8, 4)] (by kernel_rfl) (by kernel_rfl) (fun _ _ _ _ _ h => h) (⟨p3.out, p4.out⟩) ?_
    iterate 6 (refine Text.purek rfl rfl (fun K hK => ⟨_, fun w' => by go_simp <;> rfl, ?_⟩); go_simp; refine hK _ ?_; clear hK K)
    refine Text.heldk rfl rfl (fun K hK => ?_)
    refine ⟨_, fun w' hw' => exec_loadv 80 (.tmp 19) rfl 3 (by kernel_rfl) g (o + k * 3) (plL x) (by go_simp) hw'.1 rfl, ?_⟩
    go_simp
    refine hK _ ?_
    clear hK K
    refine Text.heldk rfl rfl (fun K hK => ?_)
    refine ⟨_, fun w' hw' => exec_loadv 80 (.tmp 23) rfl 3 (by kernel_rfl) g' (o' + k * 3) (plL y) (by go_simp) hw'.2 rfl, ?_⟩
    go_simp
    refine hK _ ?_
    clear hK K
    (refine Text.purek rfl rfl (fun K hK => ⟨_, fun w' => by go_simp <;> rfl, ?_⟩); go_simp; refine hK _ ?_; clear hK K)
    refine Text.done ?_
    go_wp2_with fail
    go_ret
    exact ⟨ret_bl HF.out.symm, hb.out.drew⟩
  ·
   obtain rfl : k = n := by omega
   have HF : Hid (decide (m = d) = true) := Lib.hid (decide_eq_true (List.ext_getElem? (fun i => by
    by_cases h : i < k
    ·
     exact hall.out i h
    ·
     rw [List.getElem?_eq_none (by rw [HL.out]; omega), List.getElem?_eq_none (by rw [HL'.out]; omega)])))
   go_wp2_with fail
   go_ret
   exact ⟨ret_bl HF.out.symm, hb.out⟩
end
/-! ### lists handed over -/
/-- A list of the call's own, each element's cells told. -/
def OwnC {α : Type} (C : α → List Value) (s : Nat) (te : TypeId) (w : World) (base : Nat) (v : Value) (L : List α) : Prop := RW w te s v L.length (L.flatMap C) ∧ ∀ b, v.ownBlock = some b → base ≤ b
section
variable {α : Type} {C : α → List Value} {s base : Nat} {te : TypeId} {w w' : World} {v v' : Value} {L : List α}
theorem OwnC.kept (h : OwnC C s te w base v L) (hb : Below w.heap.size w w') : OwnC C s te w' base v L := ⟨h.1.kept hb, h.2⟩
theorem OwnC.push {x : α} (h : OwnC C s te w base v L) (ap : AppR w te s v L.length 1 (L.flatMap C) (C x) v' w') (hb : base ≤ w.heap.size) : OwnC C s te w' base v' (L ++ [x]) := by
 refine ⟨?_, fun b e => (ap.own b e).elim (h.2 b) (fun h1 => by omega)⟩
 have h1 := ap.row
 rw [List.length_append, List.flatMap_append]
 simpa using h1
theorem OwnC.nil : OwnC C s te w base (.slice none 0 0) [] := ⟨RW.nil _ _ _, fun b hb => by cases hb⟩
theorem OwnC.nil' {g : Nat} (h : BL w g te []) (hg : base ≤ g) : OwnC C s te w base (.slice (some ⟨g, 0, none⟩) 0 0) [] := ⟨RW.of_blk h (by simp) (by decide), fun b hb => by cases hb; exact hg⟩
theorem OwnC.ls {R : Rdg α} {b : Nat} (h : OwnC C s te w base v L) (hC : ∀ x, (C x).length = s) (hR : ∀ x ∈ L, R w (C x) x) (hl : L.length * b ≤ lim) : ∃ A c, v = .slice A L.length c ∧ LS R s b w A L.length c L := by
 obtain ⟨A, c, rfl, hnc⟩ := h.1.form
 refine ⟨A, c, rfl, rfl, hnc, hl, fun k hk => ?_⟩
 obtain ⟨g, o, c', e, _, hat⟩ := h.1.at_ (by omega)
 cases e
 exact ⟨g, o, C L[k], rfl, hat.elem hC hk, hR _ (List.getElem_mem hk)⟩
end
theorem LS.all_ok {α : Type} {C : α → List Value} {ok : α → Prop} {s b n c : Nat} {w : World} {A : Option Addr} {L : List α} (h : LS (fun _ cs x => cs = C x ∧ ok x) s b w A n c L) : ∀ x ∈ L, ok x := fun x hx => by
 obtain ⟨k, hk, rfl⟩ := List.getElem_of_mem hx
 obtain ⟨g, o, cs, _, _, h3⟩ := h.2.2.2 k hk
 exact h3.2
theorem wtL_len (x : Wt) : (wtL x).length = 4 := rfl
theorem hdL_len' (x : Hd) : (hdL x).length = 3 := rfl
theorem plL_len' (x : Pl) : (plL x).length = 3 := rfl
theorem bsl0_rwt (w : World) : (Instr.buildSlice 30 0 #[]).run Tryz.prog w = .ok (.slice (some ⟨w.heap.size, 0, none⟩) 0 0) (w.alloc (.cells ([] : List Value).toArray 42)) := by kernel_rfl
theorem bsl1_rwt (x : Wt) (w : World) : (Instr.buildSlice 30 1 #[(0, .agg (wtL x).toArray)]).run Tryz.prog w = .ok (.slice (some ⟨w.heap.size, 0, none⟩) 1 1) (w.alloc (.cells (wtL x).toArray 42)) := by kernel_rfl
theorem info_rwt : (Tryz.prog.info? 42).map (fun i => (i.zero, i.size, i.bytes)) = some (some (.agg wtZ.toArray), 4, 40) := by kernel_rfl
set_option maxRecDepth 100000 in
set_option maxHeartbeats 4000000 in
theorem of_rwt (A : Option Addr) (n c : Nat) (L : List Wt) (w : World) (h : LS rWt 4 40 w A n c L) :
  Calls Tryz.prog 13 #[.slice A n c] w fun e w' => ∃ A' c', e = .returned (.slice A' n c') ∧ LS rWt 4 40 w' A' n c' L ∧ Below w.heap.size w w' := by
 have hn := h.len_le
 have H := Lib.hid h
 have HL := Lib.hid h.1
 have HOK : Hid (∀ x ∈ L, okWt x) := Lib.hid (LS.all_ok (C := fun x => wtL x) (ok := okWt) h)
 have HLIM := Lib.hid h.2.2.1
 clear h
 go_enter Tryz.func13, Tryz.ntmps13
 go_wp2_with (first
  | ((with_reducible show OpW 5); refine wpList_bslice _ rfl 30 42 0 _ rfl #[] (by rw [List.map_toArray]; rfl) [] (bsl0_rwt _) ?_; intro w1 a1 a2 a3; have HG1 := Lib.hid a1; have HB1 := Lib.hid a2; clear a1 a2 a3))
 go_loopw [3, 4] (fun v iv wr => ∃ k : Nat, k ≤ n ∧ iv = .int .i64 (k : Int) ∧ Hid (OwnC (fun x => wtL x) 4 42 wr w.heap.size v (L.take k)) ∧ Hid (Below w.heap.size w wr)) (fun _ iv _ => n - (intOf iv).toNat)
 case atStart => exact ⟨0, by omega, rfl, Lib.hid (OwnC.nil' HG1.out (Nat.le_refl _)), HB1⟩
 case round =>
  obtain ⟨k, hk, rfl, ho, hb⟩ := hrel
  obtain ⟨wx, hwx⟩ : ∃ x, x = wr := ⟨_, rfl⟩
  rw [← hwx] at ho hb ⊢
  clear hwx
  by_cases hlt : k < n
  ·
   obtain ⟨x, g, o, cs, hs, ea, hat, hr⟩ := H.out.at_ stay_wt hb.out hlt
   obtain ⟨rfl, _⟩ := hr
   subst ea
   have HA := Lib.hid hat
   have HTL : Hid ((L.take k).length = k) := Lib.hid (by rw [List.length_take, HL.out]; omega)
   have HN : Hid (L.take (k + 1) = L.take k ++ [x]) := Lib.hid (take_next hs)
   clear hs hat
   go_wp2_with (first
    | ((with_reducible show OpW 16); refine wpList_loadv _ rfl 74 (.tmp 15) rfl 4 (by kernel_rfl) g (o + k * 4) (wtL x) (by go_simp) HA.out rfl ?_)
    | ((with_reducible show OpW 17); refine wpList_bslice _ rfl 30 42 1 _ rfl #[(0, .agg (wtL x).toArray)] (by rw [List.map_toArray]; rfl) (wtL x) (bsl1_rwt x _) ?_; intro w2 a1 a2 a3; have HG2 := Lib.hid a1; have HB2 := Lib.hid a2; clear a1 a2 a3)
    | ((with_reducible show OpW 18); obtain ⟨iS, i1, i2, i3, i4⟩ := info_some info_rwt; refine wpList_appRW _ rfl (.tmp 12) (.tmp 17) 30 42 4 iS _ rfl Tryz.underlying30 i1 i2 i3 rfl _ _ _ rfl (ho.out.kept HB2.out).1 wx.heap.size (wtL x) rfl HG2.out rfl (one_wt x) (by rw [i4, HTL.out]; omega) (by rw [HTL.out]; omega) ?_; intro v' w3 ap; have HO3 := Lib.hid ((ho.out.kept HB2.out).push ap (Nat.le_trans hb.out.size HB2.out.size)); have HB3 : Hid (Below w.heap.size w w3) := Lib.hid (((Kp.of_below (S := fun _ => False) (below_thenB hb.out hb.out.size HB2.out)).after ap.kp (fun i hi e => by have := ho.out.2 i e; omega)).below (Nat.le_refl _) (fun _ h => h.elim)); clear ap i1 i2 i3 i4))
   go_roundw
   case rel => exact ⟨k + 1, by omega, by go_num, by rw [HN.out]; exact HO3, HB3⟩
   case measure => simp [intOf]; omega
  ·
   obtain rfl : k = n := by omega
   have e1 : L.take k = L := take_end HL.out
   rw [e1] at ho
   obtain ⟨A', c', rfl, hls⟩ := ho.out.ls (R := rWt) (b := 40) wtL_len (fun x hx => ⟨rfl, HOK.out x hx⟩) (by rw [HL.out]; exact HLIM.out)
   rw [HL.out] at hls
   have HLS := Lib.hid hls
   clear hls
   go_wp2_with fail
   go_ret
   exact ⟨A', c', by rw [← HL.out]; rfl, HLS.out, hb.out⟩
theorem bsl0_rhd (w : World) : (Instr.buildSlice 32 0 #[]).run Tryz.prog w = .ok (.slice (some ⟨w.heap.size, 0, none⟩) 0 0) (w.alloc (.cells ([] : List Value).toArray 93)) := by kernel_rfl
theorem bsl1_rhd (x : Hd) (w : World) : (Instr.buildSlice 32 1 #[(0, .agg (hdL x).toArray)]).run Tryz.prog w = .ok (.slice (some ⟨w.heap.size, 0, none⟩) 1 1) (w.alloc (.cells (hdL x).toArray 93)) := by kernel_rfl
theorem info_rhd : (Tryz.prog.info? 93).map (fun i => (i.zero, i.size, i.bytes)) = some (some (.agg hdZ.toArray), 3, 24) := by kernel_rfl
set_option maxRecDepth 100000 in
set_option maxHeartbeats 4000000 in
theorem of_rhd (A : Option Addr) (n c : Nat) (L : List Hd) (w : World) (h : LS rHd 3 24 w A n c L) :
  Calls Tryz.prog 14 #[.slice A n c] w fun e w' => ∃ A' c', e = .returned (.slice A' n c') ∧ LS rHd 3 24 w' A' n c' L ∧ Below w.heap.size w w' := by
 have hn := h.len_le
 have H := Lib.hid h
 have HL := Lib.hid h.1
 have HOK : Hid (∀ x ∈ L, okHd x) := Lib.hid (LS.all_ok (C := fun x => hdL x) (ok := okHd) h)
 have HLIM := Lib.hid h.2.2.1
 clear h
 go_enter Tryz.func14, Tryz.ntmps14
 go_wp2_with (first
  | ((with_reducible show OpW 5); refine wpList_bslice _ rfl 32 93 0 _ rfl #[] (by rw [List.map_toArray]; rfl) [] (bsl0_rhd _) ?_; intro w1 a1 a2 a3; have HG1 := Lib.hid a1; have HB1 := Lib.hid a2; clear a1 a2 a3))
 go_loopw [3, 4] (fun v iv wr => ∃ k : Nat, k ≤ n ∧ iv = .int .i64 (k : Int) ∧ Hid (OwnC (fun x => hdL x) 3 93 wr w.heap.size v (L.take k)) ∧ Hid (Below w.heap.size w wr)) (fun _ iv _ => n - (intOf iv).toNat)
 case atStart => exact ⟨0, by omega, rfl, Lib.hid (OwnC.nil' HG1.out (Nat.le_refl _)), HB1⟩
 case round =>
  obtain ⟨k, hk, rfl, ho, hb⟩ := hrel
  obtain ⟨wx, hwx⟩ : ∃ x, x = wr := ⟨_, rfl⟩
  rw [← hwx] at ho hb ⊢
  clear hwx
  by_cases hlt : k < n
  ·
   obtain ⟨x, g, o, cs, hs, ea, hat, hr⟩ := H.out.at_ stay_hd hb.out hlt
   obtain ⟨rfl, _⟩ := hr
   subst ea
   have HA := Lib.hid hat
   have HTL : Hid ((L.take k).length = k) := Lib.hid (by rw [List.length_take, HL.out]; omega)
   have HN : Hid (L.take (k + 1) = L.take k ++ [x]) := Lib.hid (take_next hs)
   clear hs hat
   go_wp2_with (first
    | ((with_reducible show OpW 16); refine wpList_loadv _ rfl 76 (.tmp 15) rfl 3 (by kernel_rfl) g (o + k * 3) (hdL x) (by go_simp) HA.out rfl ?_)
    | ((with_reducible show OpW 17); refine wpList_bslice _ rfl 32 93 1 _ rfl #[(0, .agg (hdL x).toArray)] (by rw [List.map_toArray]; rfl) (hdL x) (bsl1_rhd x _) ?_; intro w2 a1 a2 a3; have HG2 := Lib.hid a1; have HB2 := Lib.hid a2; clear a1 a2 a3)
    | ((with_reducible show OpW 18); obtain ⟨iS, i1, i2, i3, i4⟩ := info_some info_rhd; refine wpList_appRW _ rfl (.tmp 12) (.tmp 17) 32 93 3 iS _ rfl Tryz.underlying32 i1 i2 i3 rfl _ _ _ rfl (ho.out.kept HB2.out).1 wx.heap.size (hdL x) rfl HG2.out rfl (one_hd x) (by rw [i4, HTL.out]; omega) (by rw [HTL.out]; omega) ?_; intro v' w3 ap; have HO3 := Lib.hid ((ho.out.kept HB2.out).push ap (Nat.le_trans hb.out.size HB2.out.size)); have HB3 : Hid (Below w.heap.size w w3) := Lib.hid (((Kp.of_below (S := fun _ => False) (below_thenB hb.out hb.out.size HB2.out)).after ap.kp (fun i hi e => by have := ho.out.2 i e; omega)).below (Nat.le_refl _) (fun _ h => h.elim)); clear ap i1 i2 i3 i4))
   go_roundw
   case rel => exact ⟨k + 1, by omega, by go_num, by rw [HN.out]; exact HO3, HB3⟩
   case measure => simp [intOf]; omega
  ·
   obtain rfl : k = n := by omega
   have e1 : L.take k = L := take_end HL.out
   rw [e1] at ho
   obtain ⟨A', c', rfl, hls⟩ := ho.out.ls (R := rHd) (b := 24) hdL_len' (fun x hx => ⟨rfl, HOK.out x hx⟩) (by rw [HL.out]; exact HLIM.out)
   rw [HL.out] at hls
   have HLS := Lib.hid hls
   clear hls
   go_wp2_with fail
   go_ret
   exact ⟨A', c', by rw [← HL.out]; rfl, HLS.out, hb.out⟩
theorem bsl0_rpl (w : World) : (Instr.buildSlice 34 0 #[]).run Tryz.prog w = .ok (.slice (some ⟨w.heap.size, 0, none⟩) 0 0) (w.alloc (.cells ([] : List Value).toArray 80)) := by kernel_rfl
theorem bsl1_rpl (x : Pl) (w : World) : (Instr.buildSlice 34 1 #[(0, .agg (plL x).toArray)]).run Tryz.prog w = .ok (.slice (some ⟨w.heap.size, 0, none⟩) 1 1) (w.alloc (.cells (plL x).toArray 80)) := by kernel_rfl
theorem info_rpl : (Tryz.prog.info? 80).map (fun i => (i.zero, i.size, i.bytes)) = some (some (.agg plZ.toArray), 3, 32) := by kernel_rfl
set_option maxRecDepth 100000 in
set_option maxHeartbeats 4000000 in
theorem of_rpl (A : Option Addr) (n c : Nat) (L : List Pl) (w : World) (h : LS rPl 3 32 w A n c L) :
  Calls Tryz.prog 15 #[.slice A n c] w fun e w' => ∃ A' c', e = .returned (.slice A' n c') ∧ LS rPl 3 32 w' A' n c' L ∧ Below w.heap.size w w' := by
 have hn := h.len_le
 have H := Lib.hid h
 have HL := Lib.hid h.1
 have HOK : Hid (∀ x ∈ L, okPl x) := Lib.hid (LS.all_ok (C := fun x => plL x) (ok := okPl) h)
 have HLIM := Lib.hid h.2.2.1
 clear h
 go_enter Tryz.func15, Tryz.ntmps15
 go_wp2_with (first
  | ((with_reducible show OpW 5); refine wpList_bslice _ rfl 34 80 0 _ rfl #[] (by rw [List.map_toArray]; rfl) [] (bsl0_rpl _) ?_; intro w1 a1 a2 a3; have HG1 := Lib.hid a1; have HB1 := Lib.hid a2; clear a1 a2 a3))
 go_loopw [3, 4] (fun v iv wr => ∃ k : Nat, k ≤ n ∧ iv = .int .i64 (k : Int) ∧ Hid (OwnC (fun x => plL x) 3 80 wr w.heap.size v (L.take k)) ∧ Hid (Below w.heap.size w wr)) (fun _ iv _ => n - (intOf iv).toNat)
 case atStart => exact ⟨0, by omega, rfl, Lib.hid (OwnC.nil' HG1.out (Nat.le_refl _)), HB1⟩
 case round =>
  obtain ⟨k, hk, rfl, ho, hb⟩ := hrel
  obtain ⟨wx, hwx⟩ : ∃ x, x = wr := ⟨_, rfl⟩
  rw [← hwx] at ho hb ⊢
  clear hwx
  by_cases hlt : k < n
  ·
   obtain ⟨x, g, o, cs, hs, ea, hat, hr⟩ := H.out.at_ stay_pl hb.out hlt
   obtain ⟨rfl, _⟩ := hr
   subst ea
   have HA := Lib.hid hat
   have HTL : Hid ((L.take k).length = k) := Lib.hid (by rw [List.length_take, HL.out]; omega)
   have HN : Hid (L.take (k + 1) = L.take k ++ [x]) := Lib.hid (take_next hs)
   clear hs hat
   go_wp2_with (first
    | ((with_reducible show OpW 16); refine wpList_loadv _ rfl 85 (.tmp 15) rfl 3 (by kernel_rfl) g (o + k * 3) (plL x) (by go_simp) HA.out rfl ?_)
    | ((with_reducible show OpW 17); refine wpList_bslice _ rfl 34 80 1 _ rfl #[(0, .agg (plL x).toArray)] (by rw [List.map_toArray]; rfl) (plL x) (bsl1_rpl x _) ?_; intro w2 a1 a2 a3; have HG2 := Lib.hid a1; have HB2 := Lib.hid a2; clear a1 a2 a3)
    | ((with_reducible show OpW 18); obtain ⟨iS, i1, i2, i3, i4⟩ := info_some info_rpl; refine wpList_appRW _ rfl (.tmp 12) (.tmp 17) 34 80 3 iS _ rfl Tryz.underlying34 i1 i2 i3 rfl _ _ _ rfl (ho.out.kept HB2.out).1 wx.heap.size (plL x) rfl HG2.out rfl (one_pl x) (by rw [i4, HTL.out]; omega) (by rw [HTL.out]; omega) ?_; intro v' w3 ap; have HO3 := Lib.hid ((ho.out.kept HB2.out).push ap (Nat.le_trans hb.out.size HB2.out.size)); have HB3 : Hid (Below w.heap.size w w3) := Lib.hid (((Kp.of_below (S := fun _ => False) (below_thenB hb.out hb.out.size HB2.out)).after ap.kp (fun i hi e => by have := ho.out.2 i e; omega)).below (Nat.le_refl _) (fun _ h => h.elim)); clear ap i1 i2 i3 i4))
   go_roundw
   case rel => exact ⟨k + 1, by omega, by go_num, by rw [HN.out]; exact HO3, HB3⟩
   case measure => simp [intOf]; omega
  ·
   obtain rfl : k = n := by omega
   have e1 : L.take k = L := take_end HL.out
   rw [e1] at ho
   obtain ⟨A', c', rfl, hls⟩ := ho.out.ls (R := rPl) (b := 32) plL_len' (fun x hx => ⟨rfl, HOK.out x hx⟩) (by rw [HL.out]; exact HLIM.out)
   rw [HL.out] at hls
   have HLS := Lib.hid hls
   clear hls
   go_wp2_with fail
   go_ret
   exact ⟨A', c', by rw [← HL.out]; rfl, HLS.out, hb.out⟩
end Go.Proofs.YtklfficlegfhjaaGreat
