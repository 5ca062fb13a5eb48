/- Several texts in one: Hg. -/
import Derived.Test.YtheijpjfpaghfaaGreatDoorC29
/- challenge.Decode: its walk. -/
namespace Go.Proofs.YtheijpjfpaghfaaGreatDoor
open Go Go.RowKit Go.ChangeMaps Go.MapKept Gf Sha

def DcR (b : List UInt8) (w : World) (e : Ending) (w' : World) : Prop :=
 ∃ p, e = .returned (.tuple #[p, .int .i64 (decP b)]) ∧ (if decP b = 0 then ∃ gp gm L, p = .pointer (some ⟨gp, 0, none⟩) ∧ PG w' gp gm L ∧ L.map (·.e) = (rdAll b).1 ∧ (∀ q, PgB gp gm L q → w.heap.size ≤ q) else p = .pointer none) ∧ Below w.heap.size w w'
theorem DcR.bad {b : List UInt8} {w w' : World} {z : Int} (hz : decP b = z) (h0 : z ≠ 0) (hb : Below w.heap.size w w') : DcR b w (.returned (.tuple #[.pointer none, .int .i64 z])) w' :=
 ⟨_, by rw [hz], by rw [hz, if_neg h0], hb⟩
/-- The piece ahead of entry i. -/
def pvE (rs : List Se) : Nat → Option Pid
 | 0 => none
 | i + 1 => (rs[i]?).map fun x => idE x.e
theorem at_skip {w : World} {g o : Nat} {a b : Value} {l : List Value} (h : At w g o (a :: b :: l)) : At w g (o + 2) l := fun j v hj => by
 have h9 := h (j + 2) v (by simpa using hj)
 rw [show o + 2 + j = o + (j + 2) by omega]
 exact h9
theorem asc_all {l : List Pid} {p q : Pid} (h : (l ++ [p]).Pairwise (fun a b => ltI a b = true)) (hpq : ltI p q = true) : ∀ a ∈ l ++ [p], ltI a q = true := fun a ha => by
 rcases List.mem_append.1 ha with h9 | h9
 ·
  exact ltI_tr ((List.pairwise_append.1 h).2.2 a h9 p (List.mem_singleton_self _)) hpq
 ·
  rw [List.mem_singleton.1 h9]; exact hpq
/-- A new entry behind those of a purse. -/
theorem PG.add {w w' : World} {gp gm : Nat} {L : List Se} {x : Se} {L' : List (Value × Value)} (h : PG w gp gm L) (hs : Stored (L.map seKV) (pidV x.e.s x.e.i) (stV x.tv x.uv) L') (hm : MB Tryz.prog 39 w' gm L') (hk : Kp (fun b => b = gm) w w') (hx : SOk w' x)
  (hnew : ∀ y ∈ L, idE y.e ≠ idE x.e) (hap : ∀ y ∈ L, ∀ b, y.has b → ¬ x.has b) (hfar : ¬ x.has gp ∧ ¬ x.has gm) : PG w' gp gm (L ++ [x]) := by
 have e : L' = (L ++ [x]).map seKV := by
  cases hs with
  | old i u h9 =>
   exfalso
   have hm9 := List.mem_of_getElem? h9
   obtain ⟨y, hy, e⟩ := List.mem_map.1 hm9
   simp only [seKV, Prod.mk.injEq] at e
   have h8 := pidV_inj e.1
   exact hnew y hy (Prod.ext h8.1 h8.2)
  | new h9 => rw [List.map_append]; rfl
 refine ⟨h.p.kp hk h.ne, by rw [← e]; exact hm, fun y hy => ?_, List.pairwise_append.2 ⟨h.ap, by simp, fun y hy z hz b hb => by rw [List.mem_singleton.1 hz]; exact hap y hy b hb⟩, fun y hy => ?_, h.ne⟩
 ·
  rcases List.mem_append.1 hy with h9 | h9
  ·
   exact (h.ok y h9).kp hk (fun b hb e => (h.far y h9).2 (by rw [← e]; exact hb))
  ·
   rw [List.mem_singleton.1 h9]; exact hx
 ·
  rcases List.mem_append.1 hy with h9 | h9
  ·
   exact h.far y h9
  ·
   rw [List.mem_singleton.1 h9]; exact hfar
set_option maxRecDepth 100000 in
set_option maxHeartbeats 8000000 in
theorem decode_any (w : World) (A : Option Addr) (n c : Nat) (b : List UInt8) (h : BS w A n c b) :
  Calls Tryz.prog 6 #[.slice A n c] w (DcR b w) := by
 have HBS := Lib.hid h
 have HL := Lib.hid h.1
 have hn0 : n ≤ 140737488355328 := by have := h.2.2.1; unfold lim at this; omega
 clear h
 obtain ⟨C, hC⟩ : ∃ z, z = (rdC b ⟨0, 0, 0⟩).1 := ⟨_, rfl⟩
 obtain ⟨s1, hs1⟩ : ∃ z, z = (rdC b ⟨0, 0, 0⟩).2 := ⟨_, rfl⟩
 obtain ⟨R, hR⟩ : ∃ z, z = rdRecs b C ([], s1) := ⟨_, rfl⟩
 have HALL : Hid (rdAll b = R) := Lib.hid (by unfold rdAll; rw [← hC, ← hs1, ← hR])
 have HRR := Lib.hid hR
 have HC4 : Hid (C ≤ 4096) := Lib.hid (by rw [hC]; exact rdC_le b _)
 have hC4 : (C : Int) ≤ 4096 := by have := HC4.out; omega
 have QKc := Lib.hid hC
 have Qs := Lib.hid hs1
 clear hC hs1 hR
 have HCNT : Hid (∀ (w9 : World) (g : Nat) (A2 : Option Addr) (c2 : Nat), RdS w9 g A2 n c2 b ⟨0, 0, 0⟩ → Calls Tryz.prog 29 #[.pointer (some ⟨g, 0, none⟩), .int .i64 4096] w9 fun e w' => e = .returned (.int .i64 (C : Int)) ∧ RdS w' g A2 n c2 b s1 ∧ Kp (· = g) w9 w') := Lib.hid (fun w9 g A2 c2 h9 => by
  have h8 := rcount_any 4096 (by decide) w9 g n c2 A2 b ⟨0, 0, 0⟩ h9
  rw [QKc.out, Qs.out]
  exact h8)
 go_enter Tryz.func6, Tryz.ntmps6
 go_wp2_with (first
  | (go_at_call 28; refine (newReader_any w A n c b HBS.out).mono ?_; rintro e w1 ⟨g, A2, c2, rfl, r1, r2, _, r3⟩; have HG := Lib.hid r1; have HD1 := Lib.hid r2; have HB1 := Lib.hid r3; clear r1 r2 r3)
  | (go_at_call 29; refine (HCNT.out w1 g A2 c2 HD1.out).mono ?_; rintro e w2 ⟨rfl, r1, r2⟩; have HD2 := Lib.hid r1; have HK2 := Lib.hid r2; clear r1 r2))
 have HGL : Hid (g < w1.heap.size) := Lib.hid HD1.out.1.1.lt
 have HB2 : Hid (Below w.heap.size w w2) := Lib.hid (((Kp.of_below (S := fun _ => False) HB1.out).after HK2.out (fun i hi e => by have := HG.out; omega)).below (Nat.le_refl _) (fun _ h => h.elim))
 have HZ2 : Hid (w1.heap.size ≤ w2.heap.size) := Lib.hid HK2.out.size
 clear HK2 HCNT QKc Qs HBS HB1
 go_loopw [5, 17] (fun v iv wr => ∃ (k : Nat) (rs : List Se) (sk : Rd), k ≤ C ∧ iv = .int .i64 (k : Int) ∧ Hid (rs.length = k) ∧ Hid (rdRecs b (C - k) (rs.map (·.e), sk) = R) ∧ Hid (RL wr w1.heap.size v rs) ∧ Hid (RdS wr g A2 n c2 b sk) ∧ Hid (Below w.heap.size w wr) ∧ Hid (w1.heap.size ≤ wr.heap.size)) (fun _ iv _ => C - (intOf iv).toNat)
 case atStart => exact ⟨0, [], s1, by omega, rfl, Lib.hid rfl, Lib.hid HRR.out.symm, Lib.hid (RL.nil _ _), HD2, HB2, HZ2⟩
 case round =>
  obtain ⟨k, rs, sk, hk, rfl, hl, hrr, hrl, hd, hb, hz⟩ := hrel
  obtain ⟨wx, hwx⟩ : ∃ x, x = wr := ⟨_, rfl⟩
  rw [← hwx] at hrl hd hb hz ⊢
  clear hwx
  have hsk : (sk.off : Int) ≤ (n : Int) := by have := hd.out.2; omega
  by_cases hlt : k < C
  ·
   obtain ⟨o1, ho1⟩ : ∃ z, z = sk.off := ⟨_, rfl⟩
   obtain ⟨sn, hsn⟩ : ∃ z, z = (rdRec b sk).2 := ⟨_, rfl⟩
   have HO1 := Lib.hid ho1
   have HSN := Lib.hid hsn
   clear ho1 hsn
   have HST : Hid (sn.err = 0 → o1 + 32 ≤ sn.off) := Lib.hid (fun h => by rw [HO1.out, HSN.out]; rw [HSN.out] at h; exact (rdRec_step h).1)
   have HMO : Hid (o1 ≤ n ∧ sn.off = sn.off) := Lib.hid ⟨by rw [HO1.out]; exact hd.out.2, rfl⟩
   have HNX : Hid (∀ x : Se, x.e = (rdRec b sk).1 → rdRecs b (C - (k + 1)) ((rs ++ [x]).map (·.e), sn) = R) := Lib.hid (fun x hx => by
    have h9 := hrr.out
    rw [show C - k = (C - (k + 1)) + 1 by omega, rdRecs] at h9
    rw [List.map_append, List.map_cons, List.map_nil, hx, HSN.out]
    exact h9)
   obtain ⟨so, hso⟩ : ∃ z, z = sn.off := ⟨_, rfl⟩
   have HSO0 := Lib.hid hso
   clear hso
   by_cases hbr : so = o1
   ·
    have fbr : ((n : Int) - (so : Int) == (n : Int) - (o1 : Int)) = true := by rw [beq_iff_eq]; omega
    have HERR : Hid (sn.err ≠ 0) := Lib.hid (fun h => by have := HST.out h; have := HSO0.out; omega)
    clear hbr
    go_wp2_with (first
     | (go_at_call 30; (with_reducible show Calls _ _ _ wx _); refine (left_rd wx g n c2 A2 b sk hd.out).mono ?_; rintro e y1 ⟨rfl, hw⟩; rw [← HO1.out]; have HRL1 : Hid (RL y1 w1.heap.size _ rs) := Lib.hid (by rw [hw]; exact hrl.out.kept (Below.refl _ _).drew); have HD1' : Hid (RdS y1 g A2 n c2 b sk) := Lib.hid (by rw [hw]; exact hd.out); have HB1' : Hid (Below w.heap.size w y1) := Lib.hid (by rw [hw]; exact hb.out.drew); have HZ1' : Hid (w1.heap.size ≤ y1.heap.size) := Lib.hid (by rw [hw]; exact hz.out); clear hw)
     | (go_at_call 31; refine (readRecord_any y1 g n c2 A2 b sk HD1'.out).mono ?_; rintro e y2 ⟨⟨en, tv, uv⟩, hxe, rfl, hso, hnew, hrd, hkp⟩; rw [← HSN.out] at hrd; have HXE := Lib.hid hxe; have HSO := Lib.hid hso; have HNEW := Lib.hid hnew; have HD2' := Lib.hid hrd; have HK2' := Lib.hid hkp; have HRL2 := Lib.hid (HRL1.out.kp hkp (fun q hq e => by have := HGL.out; omega)); have HB2' : Hid (Below w.heap.size w y2) := Lib.hid (((Kp.of_below (S := fun _ => False) HB1'.out).after hkp (fun i hi e => by have := HG.out; omega)).below (Nat.le_refl _) (fun _ h => h.elim)); have HZ2' : Hid (w1.heap.size ≤ y2.heap.size ∧ y1.heap.size ≤ y2.heap.size) := Lib.hid ⟨Nat.le_trans HZ1'.out hkp.size, hkp.size⟩; clear hxe hso hnew hrd hkp)
     | ((with_reducible show OpW 24); refine wpList_bslice _ rfl 75 82 1 _ rfl #[(0, .agg [.string (strB en.s), .int .i64 en.i, tv, uv].toArray)] (by rw [List.map_toArray]; rfl) [.string (strB en.s), .int .i64 en.i, tv, uv] (by exact bslRe _ _ _ _ _) ?_; intro y3 a1 a2 a3; have HN3 := Lib.hid a1; have HRL3 := Lib.hid (HRL2.out.kept a2); have HSO3 := Lib.hid (HSO.out.kept a2); have HD3 := Lib.hid (HD2'.out.kept a2); have HB3 := Lib.hid (below_thenB HB2'.out HB2'.out.size a2); have HZ3 : Hid (w1.heap.size ≤ y3.heap.size ∧ y1.heap.size ≤ y3.heap.size) := Lib.hid (by have := HZ2'.out; have := a2.size; omega); clear a1 a2 a3)
     | ((with_reducible show OpW 25); obtain ⟨iS, i1, i2, i3, i4⟩ := info_some infoRe; refine wpList_appRW _ rfl (.tmp 21) (.tmp 24) 75 82 4 iS _ rfl Tryz.underlying75 i1 i2 i3 rfl _ _ _ rfl HRL3.out.row y2.heap.size _ rfl HN3.out rfl (seC_one HSO3.out) (by rw [i4]; have := hl.out; have := HC4.out; omega) (by have := hl.out; have := HC4.out; omega) ?_; intro v4 y4 ap; have HRL4 : Hid (RL y4 w1.heap.size v4 (rs ++ [⟨en, tv, uv⟩])) := Lib.hid (RL.push HRL1.out HRL3.out HSO3.out HNEW.out HZ1'.out HZ3.out.2 ap); have HD4 := Lib.hid (HD1.out.new HD3.out ap.kp (fun q e => by have := HRL3.out.vlo q e; omega)); have HB4 : Hid (Below w.heap.size w y4) := Lib.hid (((Kp.of_below (S := fun _ => False) HB3.out).after ap.kp (fun i hi e => by have := HRL3.out.vlo i e; have := HG.out; have := HGL.out; omega)).below (Nat.le_refl _) (fun _ h => h.elim)); have HZ4 : Hid (w1.heap.size ≤ y4.heap.size) := Lib.hid (Nat.le_trans HZ3.out.1 ap.kp.size); clear ap i1 i2 i3 i4)
     | (go_at_call 30; (with_reducible show Calls _ _ _ y4 _); refine (left_rd y4 g n c2 A2 b sn HD4.out).mono ?_; rintro e y5 ⟨rfl, hw⟩; rw [← HSO0.out]; have HRL5 : Hid (RL y5 w1.heap.size v4 (rs ++ [⟨en, tv, uv⟩])) := Lib.hid (by rw [hw]; exact HRL4.out.kept (Below.refl _ _).drew); have HD5 : Hid (RdS y5 g A2 n c2 b sn) := Lib.hid (by rw [hw]; exact HD4.out); have HB5 : Hid (Below w.heap.size w y5) := Lib.hid (by rw [hw]; exact HB4.out.drew); have HZ5 : Hid (w1.heap.size ≤ y5.heap.size) := Lib.hid (by rw [hw]; exact HZ4.out); clear hw)
     | (go_at_call 32; refine (end_any y5 g n c2 A2 b sn HD5.out).mono ?_; rintro e9 w9 ⟨⟨z9, rfl⟩, b9⟩; rw [endR, if_neg HERR.out]; have HB9 : Hid (Below w.heap.size w w9) := Lib.hid (below_thenB HB5.out HB5.out.size b9); obtain ⟨ez, hez⟩ : ∃ z, z = sn.err := ⟨_, rfl⟩; rw [← hez]; have HEZ := Lib.hid hez; have fez : (ez != 0) = true := (by rw [bne_iff_ne, hez]; exact HERR.out); have HDX := Lib.hid (HNX.out ⟨en, tv, uv⟩ HXE.out); clear b9 hez))
    go_ret2
    refine DcR.bad ?_ (by have h9 := HERR.out; rw [← HEZ.out] at h9; exact h9) HB9.out
    have h9 := HDX.out
    have h8 := rdRecs_err b (C - (k + 1)) ((rs ++ [(⟨en, tv, uv⟩ : Se)]).map (·.e), sn) HERR.out
    rw [h9] at h8
    unfold decP
    rw [HALL.out, h8]
    have h7 : endR b.length sn = ez := by rw [endR, if_neg HERR.out, HEZ.out]
    have h6 : ¬ ez = 0 := by rw [HEZ.out]; exact HERR.out
    show (if endR b.length sn = 0 then _ else endR b.length sn) = ez
    rw [h7, if_neg h6]
   ·
    have fbr : ((n : Int) - (so : Int) == (n : Int) - (o1 : Int)) = false := by rw [beq_eq_false_iff_ne]; omega
    clear hbr
    go_wp2_with (first
     | (go_at_call 30; (with_reducible show Calls _ _ _ wx _); refine (left_rd wx g n c2 A2 b sk hd.out).mono ?_; rintro e y1 ⟨rfl, hw⟩; rw [← HO1.out]; have HRL1 : Hid (RL y1 w1.heap.size _ rs) := Lib.hid (by rw [hw]; exact hrl.out.kept (Below.refl _ _).drew); have HD1' : Hid (RdS y1 g A2 n c2 b sk) := Lib.hid (by rw [hw]; exact hd.out); have HB1' : Hid (Below w.heap.size w y1) := Lib.hid (by rw [hw]; exact hb.out.drew); have HZ1' : Hid (w1.heap.size ≤ y1.heap.size) := Lib.hid (by rw [hw]; exact hz.out); clear hw)
     | (go_at_call 31; refine (readRecord_any y1 g n c2 A2 b sk HD1'.out).mono ?_; rintro e y2 ⟨⟨en, tv, uv⟩, hxe, rfl, hso, hnew, hrd, hkp⟩; rw [← HSN.out] at hrd; have HXE := Lib.hid hxe; have HSO := Lib.hid hso; have HNEW := Lib.hid hnew; have HD2' := Lib.hid hrd; have HK2' := Lib.hid hkp; have HRL2 := Lib.hid (HRL1.out.kp hkp (fun q hq e => by have := HGL.out; omega)); have HB2' : Hid (Below w.heap.size w y2) := Lib.hid (((Kp.of_below (S := fun _ => False) HB1'.out).after hkp (fun i hi e => by have := HG.out; omega)).below (Nat.le_refl _) (fun _ h => h.elim)); have HZ2' : Hid (w1.heap.size ≤ y2.heap.size ∧ y1.heap.size ≤ y2.heap.size) := Lib.hid ⟨Nat.le_trans HZ1'.out hkp.size, hkp.size⟩; clear hxe hso hnew hrd hkp)
     | ((with_reducible show OpW 24); refine wpList_bslice _ rfl 75 82 1 _ rfl #[(0, .agg [.string (strB en.s), .int .i64 en.i, tv, uv].toArray)] (by rw [List.map_toArray]; rfl) [.string (strB en.s), .int .i64 en.i, tv, uv] (by exact bslRe _ _ _ _ _) ?_; intro y3 a1 a2 a3; have HN3 := Lib.hid a1; have HRL3 := Lib.hid (HRL2.out.kept a2); have HSO3 := Lib.hid (HSO.out.kept a2); have HD3 := Lib.hid (HD2'.out.kept a2); have HB3 := Lib.hid (below_thenB HB2'.out HB2'.out.size a2); have HZ3 : Hid (w1.heap.size ≤ y3.heap.size ∧ y1.heap.size ≤ y3.heap.size) := Lib.hid (by have := HZ2'.out; have := a2.size; omega); clear a1 a2 a3)
     | ((with_reducible show OpW 25); obtain ⟨iS, i1, i2, i3, i4⟩ := info_some infoRe; refine wpList_appRW _ rfl (.tmp 21) (.tmp 24) 75 82 4 iS _ rfl Tryz.underlying75 i1 i2 i3 rfl _ _ _ rfl HRL3.out.row y2.heap.size _ rfl HN3.out rfl (seC_one HSO3.out) (by rw [i4]; have := hl.out; have := HC4.out; omega) (by have := hl.out; have := HC4.out; omega) ?_; intro v4 y4 ap; have HRL4 : Hid (RL y4 w1.heap.size v4 (rs ++ [⟨en, tv, uv⟩])) := Lib.hid (RL.push HRL1.out HRL3.out HSO3.out HNEW.out HZ1'.out HZ3.out.2 ap); have HD4 := Lib.hid (HD1.out.new HD3.out ap.kp (fun q e => by have := HRL3.out.vlo q e; omega)); have HB4 : Hid (Below w.heap.size w y4) := Lib.hid (((Kp.of_below (S := fun _ => False) HB3.out).after ap.kp (fun i hi e => by have := HRL3.out.vlo i e; have := HG.out; have := HGL.out; omega)).below (Nat.le_refl _) (fun _ h => h.elim)); have HZ4 : Hid (w1.heap.size ≤ y4.heap.size) := Lib.hid (Nat.le_trans HZ3.out.1 ap.kp.size); clear ap i1 i2 i3 i4)
     | (go_at_call 30; (with_reducible show Calls _ _ _ y4 _); refine (left_rd y4 g n c2 A2 b sn HD4.out).mono ?_; rintro e y5 ⟨rfl, hw⟩; rw [← HSO0.out]; have HRL5 : Hid (RL y5 w1.heap.size v4 (rs ++ [⟨en, tv, uv⟩])) := Lib.hid (by rw [hw]; exact HRL4.out.kept (Below.refl _ _).drew); have HD5 : Hid (RdS y5 g A2 n c2 b sn) := Lib.hid (by rw [hw]; exact HD4.out); have HB5 : Hid (Below w.heap.size w y5) := Lib.hid (by rw [hw]; exact HB4.out.drew); have HZ5 : Hid (w1.heap.size ≤ y5.heap.size) := Lib.hid (by rw [hw]; exact HZ4.out); clear hw)
     | fail)
    go_roundw
    case rel => exact ⟨k + 1, rs ++ [⟨en, tv, uv⟩], sn, by omega, by go_num, Lib.hid (by rw [List.length_append, hl.out]; rfl), Lib.hid (HNX.out ⟨en, tv, uv⟩ HXE.out), HRL5, HD5, HB5, HZ5⟩
    case measure => simp [intOf]; omega
  ·
   obtain rfl : k = C := by omega
   have hRe : (rs.map (·.e), sk) = R := by
    have h9 := hrr.out
    rwa [Nat.sub_self] at h9
   have HR1 : Hid (rs.map (·.e) = R.1 ∧ sk = R.2) := Lib.hid (by rw [← hRe]; exact ⟨rfl, rfl⟩)
   clear hRe hrr
   rw [HR1.out.2] at hd
   have HRS := Lib.hid HR1.out.1
   clear HR1 hsk
   obtain ⟨ez, hez⟩ : ∃ z, z = endR n R.2 := ⟨_, rfl⟩
   have HEZ := Lib.hid hez
   clear hez
   obtain ⟨Av, cv, ev, _⟩ := hrl.out.row.form
   rw [hl.out] at ev
   subst ev
   by_cases h0 : ez = 0
   ·
    subst h0
    have HD3 : Hid (validE none R.1 = false → decP b = 3) := Lib.hid (fun h9 => by
     unfold decP
     rw [HALL.out, HL.out, ← HEZ.out, if_pos rfl, if_neg (fun h8 => by rw [h9] at h8; cases h8.1)])
    have HDS : Hid (4096 < sizeE R.1 → decP b = 3) := Lib.hid (fun h9 => by
     unfold decP
     rw [HALL.out, HL.out, ← HEZ.out, if_pos rfl, if_neg (fun h8 => by omega)])
    have HD0 : Hid (validE none R.1 = true → sizeE R.1 ≤ 4096 → decP b = 0) := Lib.hid (fun h9 h8 => by
     unfold decP
     rw [HALL.out, HL.out, ← HEZ.out, if_pos rfl, if_pos ⟨h9, h8⟩])
    go_wp2_with (first
     | (go_at_call 32; refine (end_any wx g n c2 A2 b R.2 hd.out).mono ?_; rintro e9 w9 ⟨⟨z9, rfl⟩, b9⟩; rw [← HEZ.out]; have HB9 : Hid (Below w.heap.size w w9) := Lib.hid (below_thenB hb.out hb.out.size b9); have HRL9 := Lib.hid (hrl.out.kept b9); have HZ9 : Hid (w1.heap.size ≤ w9.heap.size) := Lib.hid (Nat.le_trans hz.out b9.size); clear b9)
     | (go_at_call 10; refine (pnew_any w9).mono ?_; rintro e9 w10 ⟨gp, gm, rfl, r1, r2, r3, r4⟩; have HP10 := Lib.hid r1; have HB10 := Lib.hid r2; have HPM : Hid (w9.heap.size ≤ gp ∧ w9.heap.size ≤ gm) := Lib.hid ⟨r3, r4⟩; clear r1 r2 r3 r4))
    have hkl : rs.length = k := hl.out
    have HROW := Lib.hid HRL9.out.row
    rw [hkl] at HROW
    go_loopw [42] (fun iv wr => ∃ i : Nat, i ≤ k ∧ iv = .int .i64 (i : Int) ∧ Hid (PG wr gp gm (rs.take i)) ∧ Hid (validE none R.1 = validE (pvE rs i) ((rs.drop i).map (·.e))) ∧ Hid (((rs.take i).map fun x => idE x.e).Pairwise (fun a b => ltI a b = true)) ∧ Hid (Below w9.heap.size w9 wr)) (fun iv _ => k - (intOf iv).toNat)
    case atStart => exact ⟨0, by omega, rfl, HP10, Lib.hid (by rw [List.drop_zero, HRS.out]; rfl), Lib.hid List.Pairwise.nil, HB10⟩
    case round =>
     obtain ⟨i, hi, rfl, hpg, hval, hasc, hb⟩ := hrel
     obtain ⟨wy, hwy⟩ : ∃ x, x = wr := ⟨_, rfl⟩
     rw [← hwy] at hpg hb ⊢
     clear hwy
     by_cases hik : i < k
     ·
      obtain ⟨g', o', c', e, _, hat⟩ := HROW.out.at_ (by omega)
      cases e
      have hil : i < rs.length := by omega
      obtain ⟨x, hx⟩ : ∃ x, x = rs[i] := ⟨_, rfl⟩
      have HTK : Hid (rs.take (i + 1) = rs.take i ++ [x]) := Lib.hid (by rw [List.take_succ_eq_append_getElem hil, hx])
      have HDR : Hid (rs.drop i = x :: rs.drop (i + 1)) := Lib.hid (by rw [List.drop_eq_getElem_cons hil, hx])
      have HPV : Hid (pvE rs (i + 1) = some (idE x.e)) := Lib.hid (by show (rs[i]?).map _ = _; rw [List.getElem?_eq_getElem hil, hx]; rfl)
      have hxm : x ∈ rs := by rw [hx]; exact List.getElem_mem hil
      have HAT := Lib.hid ((At.elem (f := seC) seC_length hat hil).kept hb.out)
      rw [← hx] at HAT
      have HSX := Lib.hid (HRL9.out.ok x hxm)
      have HAPX : Hid (∀ y ∈ rs.take i, ∀ q, y.has q → ¬ x.has q) := Lib.hid (fun y hy q hq => by
       have h9 := HRL9.out.ap
       rw [← List.take_append_drop i rs, HDR.out] at h9
       exact (List.pairwise_append.1 h9).2.2 y hy x (List.mem_cons_self ..) q hq)
      have HHAT := Lib.hid hat
      clear hat hx
      obtain ⟨⟨s, z, tk, us⟩, tv, uv⟩ := x
      have HST : Hid (Stk w9 tv uv tk us) := Lib.hid HSX.out.st
      have HONE : Hid (∀ v ∈ [Value.string (strB s), .int .i64 z, tv, uv], v.oneCell' = true) := Lib.hid (seC_one HSX.out)
      have HKY := Lib.hid (keyPid s z HSX.out.ws HSX.out.wi)
      have HAT : Hid (At wy g' (o' + i * 4) [.string (strB s), .int .i64 z, tv, uv]) := Lib.hid HAT.out
      obtain ⟨tt, htt⟩ : ∃ tt, tt = tk.length + us.length := ⟨_, rfl⟩
      have HTT := Lib.hid htt
      have HVS : Hid (validE none R.1 = (okE ⟨s, z, tk, us⟩ && (ascE (pvE rs i) (s, z) && validE (some (s, z)) ((rs.drop (i + 1)).map (·.e))))) := Lib.hid (by rw [hval.out, HDR.out]; rfl)
      clear htt hxm
      cases h1 : idB s z with
      | false =>
       have HIDB := Lib.hid h1
       clear h1
       go_wp2_with (first
        | ((with_reducible show OpW 46); refine wpList_loadv _ rfl 82 (.tmp 45) rfl 4 (by kernel_rfl) g' (o' + i * 4) [.string (strB s), .int .i64 z, tv, uv] (by go_simp) HAT.out rfl ?_)
        | ((with_reducible show OpW 11); refine wpList_alloc _ rfl 82 rfl reZ reZero ?_; intro y1 a1 a2 a3; have HV1 := Lib.hid a1; have HX1 := Lib.hid a2; clear a1 a2 a3)
        | ((with_reducible show OpN); refine wpList_storev _ rfl 82 (.tmp 11) (.tmp 46) rfl 4 (by kernel_rfl) wy.heap.size 0 _ reZ [.string (strB s), .int .i64 z, tv, uv] rfl rfl HV1.out rfl HONE.out (by decide) ?_; intro y2 a1 a2 a3; have HV2 : Hid (BL y2 wy.heap.size 82 [.string (strB s), .int .i64 z, tv, uv]) := Lib.hid a1; have HX2 : Hid (Below wy.heap.size wy y2) := Lib.hid (low_own HX1.out a2 (fun i hi e => by omega)); clear a1 a2 a3)
        | ((with_reducible show OpW 48); refine wpList_loadv _ rfl 39 (.tmp 47) rfl 2 (by kernel_rfl) wy.heap.size 0 [.string (strB s), .int .i64 z] rfl (At.left (xs := [tv, uv]) (BL.all HV2.out)) rfl ?_)
        | (go_at_call 33; refine (isID_any s z y2).mono ?_; rintro e9 y3 ⟨rfl, b1⟩; rw [HIDB.out]; have HX3 := Lib.hid (below_thenB HX2.out HX2.out.size b1); have HV3 := Lib.hid (HV2.out.kept b1); clear b1)
        | fail)
       go_ret2
       exact DcR.bad (HD3.out (by rw [HVS.out, okE, HIDB.out]; rfl)) (by decide) (below_thenB HB9.out HB9.out.size (below_thenB hb.out hb.out.size HX3.out))
      | true =>
       have HIDB := Lib.hid h1
       clear h1
       by_cases h2 : tt = 0
       ·
        have f2 : ((tt : Int) == 0) = true := by rw [h2]; rfl
        have HZ0 : Hid (okE ⟨s, z, tk, us⟩ = false) := Lib.hid (by
         have h9 : ¬ (tk.length + us.length ≠ 0) := by rw [← HTT.out]; omega
         show (idB s z && (decide (tk.length + us.length ≠ 0) && _)) = false
         rw [decide_eq_false h9, Bool.false_and, Bool.and_false])
        clear h2
        go_wp2_with (first
         | ((with_reducible show OpW 46); refine wpList_loadv _ rfl 82 (.tmp 45) rfl 4 (by kernel_rfl) g' (o' + i * 4) [.string (strB s), .int .i64 z, tv, uv] (by go_simp) HAT.out rfl ?_)
         | ((with_reducible show OpW 11); refine wpList_alloc _ rfl 82 rfl reZ reZero ?_; intro y1 a1 a2 a3; have HV1 := Lib.hid a1; have HX1 := Lib.hid a2; clear a1 a2 a3)
         | ((with_reducible show OpN); refine wpList_storev _ rfl 82 (.tmp 11) (.tmp 46) rfl 4 (by kernel_rfl) wy.heap.size 0 _ reZ [.string (strB s), .int .i64 z, tv, uv] rfl rfl HV1.out rfl HONE.out (by decide) ?_; intro y2 a1 a2 a3; have HV2 : Hid (BL y2 wy.heap.size 82 [.string (strB s), .int .i64 z, tv, uv]) := Lib.hid a1; have HX2 : Hid (Below wy.heap.size wy y2) := Lib.hid (low_own HX1.out a2 (fun i hi e => by omega)); clear a1 a2 a3)
         | ((with_reducible show OpW 48); refine wpList_loadv _ rfl 39 (.tmp 47) rfl 2 (by kernel_rfl) wy.heap.size 0 [.string (strB s), .int .i64 z] rfl (At.left (xs := [tv, uv]) (BL.all HV2.out)) rfl ?_)
         | (go_at_call 33; refine (isID_any s z y2).mono ?_; rintro e9 y3 ⟨rfl, b1⟩; rw [HIDB.out]; have HX3 := Lib.hid (below_thenB HX2.out HX2.out.size b1); have HV3 := Lib.hid (HV2.out.kept b1); clear b1)
         | ((with_reducible show OpW 53); refine wpList_loadvg _ rfl 80 (.tmp 52) rfl 2 (by kernel_rfl) wy.heap.size 2 [tv, uv] rfl (at_skip (BL.all HV3.out)) rfl ?_)
         | (go_at_call 34; refine (stsize_any y3 tv uv tk us (HST.out.kept (below_thenB hb.out hb.out.size HX3.out))).mono ?_; rintro e9 y4 ⟨rfl, b1⟩; rw [← HTT.out]; have HX4 := Lib.hid (below_thenB HX3.out HX3.out.size b1); have HV4 := Lib.hid (HV3.out.kept b1); clear b1)
         | fail)
        go_ret2
        exact DcR.bad (HD3.out (by rw [HVS.out, HZ0.out]; rfl)) (by decide) (below_thenB HB9.out HB9.out.size (below_thenB hb.out hb.out.size HX4.out))
       ·
        have f2 : ((tt : Int) == 0) = false := by rw [beq_eq_false_iff_ne]; omega
        cases h3 : decide (us ++ tk.map (·.1)).Nodup with
        | false =>
         have HND := Lib.hid h3
         have HZ0 : Hid (okE ⟨s, z, tk, us⟩ = false) := Lib.hid (by
          show (idB s z && (decide (tk.length + us.length ≠ 0) && decide (us ++ tk.map (·.1)).Nodup)) = false
          rw [h3, Bool.and_false, Bool.and_false])
         clear h2 h3
         go_wp2_with (first
          | ((with_reducible show OpW 46); refine wpList_loadv _ rfl 82 (.tmp 45) rfl 4 (by kernel_rfl) g' (o' + i * 4) [.string (strB s), .int .i64 z, tv, uv] (by go_simp) HAT.out rfl ?_)
          | ((with_reducible show OpW 11); refine wpList_alloc _ rfl 82 rfl reZ reZero ?_; intro y1 a1 a2 a3; have HV1 := Lib.hid a1; have HX1 := Lib.hid a2; clear a1 a2 a3)
          | ((with_reducible show OpN); refine wpList_storev _ rfl 82 (.tmp 11) (.tmp 46) rfl 4 (by kernel_rfl) wy.heap.size 0 _ reZ [.string (strB s), .int .i64 z, tv, uv] rfl rfl HV1.out rfl HONE.out (by decide) ?_; intro y2 a1 a2 a3; have HV2 : Hid (BL y2 wy.heap.size 82 [.string (strB s), .int .i64 z, tv, uv]) := Lib.hid a1; have HX2 : Hid (Below wy.heap.size wy y2) := Lib.hid (low_own HX1.out a2 (fun i hi e => by omega)); clear a1 a2 a3)
          | ((with_reducible show OpW 48); refine wpList_loadv _ rfl 39 (.tmp 47) rfl 2 (by kernel_rfl) wy.heap.size 0 [.string (strB s), .int .i64 z] rfl (At.left (xs := [tv, uv]) (BL.all HV2.out)) rfl ?_)
          | (go_at_call 33; refine (isID_any s z y2).mono ?_; rintro e9 y3 ⟨rfl, b1⟩; rw [HIDB.out]; have HX3 := Lib.hid (below_thenB HX2.out HX2.out.size b1); have HV3 := Lib.hid (HV2.out.kept b1); clear b1)
          | ((with_reducible show OpW 53); refine wpList_loadvg _ rfl 80 (.tmp 52) rfl 2 (by kernel_rfl) wy.heap.size 2 [tv, uv] rfl (at_skip (BL.all HV3.out)) rfl ?_)
          | (go_at_call 34; refine (stsize_any y3 tv uv tk us (HST.out.kept (below_thenB hb.out hb.out.size HX3.out))).mono ?_; rintro e9 y4 ⟨rfl, b1⟩; rw [← HTT.out]; have HX4 := Lib.hid (below_thenB HX3.out HX3.out.size b1); have HV4 := Lib.hid (HV3.out.kept b1); clear b1)
          | ((with_reducible show OpW 59); refine wpList_loadvg _ rfl 80 (.tmp 58) rfl 2 (by kernel_rfl) wy.heap.size 2 [tv, uv] rfl (at_skip (BL.all HV4.out)) rfl ?_)
          | (go_at_call 36; refine (nonces_any y4 tv uv tk us (HST.out.kept (below_thenB hb.out hb.out.size HX4.out))).mono ?_; rintro e9 y5 ⟨vn, rfl, r1, r2⟩; have HNO := Lib.hid r1; have HX5 := Lib.hid (below_thenB HX4.out HX4.out.size r2); have HV5 := Lib.hid (HV4.out.kept r2); have HZ5 : Hid (wy.heap.size < y4.heap.size) := Lib.hid HV4.out.lt; clear r1 r2)
          | (go_at_call 35; refine (distinct_any vn _ _ y5 HNO.out.1 (by have := HST.out.bt; have := HST.out.bu; omega)).mono ?_; rintro e9 y6 ⟨rfl, r2⟩; rw [HND.out]; have HV6 := Lib.hid (HV5.out.kp r2 (fun e => by have := HNO.out.2 _ e; have := HZ5.out; omega)); have HX6 : Hid (Below wy.heap.size wy y6) := Lib.hid (low_own HX5.out r2 (fun i hi e => by have := HNO.out.2 i e; have := HX4.out.size; omega)); clear r2)
          | fail)
         go_ret2
         exact DcR.bad (HD3.out (by rw [HVS.out, HZ0.out]; rfl)) (by decide) (below_thenB HB9.out HB9.out.size (below_thenB hb.out hb.out.size HX6.out))
        | true =>
         have HND := Lib.hid h3
         have HOK : Hid (okE ⟨s, z, tk, us⟩ = true) := Lib.hid (by
          show (idB s z && (decide (tk.length + us.length ≠ 0) && decide (us ++ tk.map (·.1)).Nodup)) = true
          rw [h3, HIDB.out, decide_eq_true (by rw [← HTT.out]; exact h2)]
          rfl)
         clear h2 h3
         by_cases h4 : i = 0
         ·
          have fi : decide ((0 : Int) < (i : Int)) = false := decide_eq_false (by omega)
          have fi' : decide (0 < i) = false := decide_eq_false (by omega)
          have HNV : Hid (validE none R.1 = validE (pvE rs (i + 1)) ((rs.drop (i + 1)).map (·.e))) := Lib.hid (by rw [HVS.out, HPV.out, HOK.out, h4]; rfl)
          have HNA : Hid (((rs.take (i + 1)).map fun x => idE x.e).Pairwise (fun a b => ltI a b = true)) := Lib.hid (by rw [HTK.out, h4]; simp)
          have HNEWK : Hid (∀ y ∈ rs.take i, idE y.e ≠ idE ⟨s, z, tk, us⟩) := Lib.hid (fun y hy => by rw [h4] at hy; simp at hy)
          clear h4
          go_wp2_with (first
           | ((with_reducible show OpW 46); refine wpList_loadv _ rfl 82 (.tmp 45) rfl 4 (by kernel_rfl) g' (o' + i * 4) [.string (strB s), .int .i64 z, tv, uv] (by go_simp) HAT.out rfl ?_)
           | ((with_reducible show OpW 11); refine wpList_alloc _ rfl 82 rfl reZ reZero ?_; intro y1 a1 a2 a3; have HV1 := Lib.hid a1; have HX1 := Lib.hid a2; clear a1 a2 a3)
           | ((with_reducible show OpN); refine wpList_storev _ rfl 82 (.tmp 11) (.tmp 46) rfl 4 (by kernel_rfl) wy.heap.size 0 _ reZ [.string (strB s), .int .i64 z, tv, uv] rfl rfl HV1.out rfl HONE.out (by decide) ?_; intro y2 a1 a2 a3; have HV2 : Hid (BL y2 wy.heap.size 82 [.string (strB s), .int .i64 z, tv, uv]) := Lib.hid a1; have HX2 : Hid (Below wy.heap.size wy y2) := Lib.hid (low_own HX1.out a2 (fun i hi e => by omega)); clear a1 a2 a3)
           | ((with_reducible show OpW 48); refine wpList_loadv _ rfl 39 (.tmp 47) rfl 2 (by kernel_rfl) wy.heap.size 0 [.string (strB s), .int .i64 z] rfl (At.left (xs := [tv, uv]) (BL.all HV2.out)) rfl ?_)
           | (go_at_call 33; refine (isID_any s z y2).mono ?_; rintro e9 y3 ⟨rfl, b1⟩; rw [HIDB.out]; have HX3 := Lib.hid (below_thenB HX2.out HX2.out.size b1); have HV3 := Lib.hid (HV2.out.kept b1); clear b1)
           | ((with_reducible show OpW 53); refine wpList_loadvg _ rfl 80 (.tmp 52) rfl 2 (by kernel_rfl) wy.heap.size 2 [tv, uv] rfl (at_skip (BL.all HV3.out)) rfl ?_)
           | (go_at_call 34; refine (stsize_any y3 tv uv tk us (HST.out.kept (below_thenB hb.out hb.out.size HX3.out))).mono ?_; rintro e9 y4 ⟨rfl, b1⟩; rw [← HTT.out]; have HX4 := Lib.hid (below_thenB HX3.out HX3.out.size b1); have HV4 := Lib.hid (HV3.out.kept b1); clear b1)
           | ((with_reducible show OpW 59); refine wpList_loadvg _ rfl 80 (.tmp 58) rfl 2 (by kernel_rfl) wy.heap.size 2 [tv, uv] rfl (at_skip (BL.all HV4.out)) rfl ?_)
           | (go_at_call 36; refine (nonces_any y4 tv uv tk us (HST.out.kept (below_thenB hb.out hb.out.size HX4.out))).mono ?_; rintro e9 y5 ⟨vn, rfl, r1, r2⟩; have HNO := Lib.hid r1; have HX5 := Lib.hid (below_thenB HX4.out HX4.out.size r2); have HV5 := Lib.hid (HV4.out.kept r2); have HZ5 : Hid (wy.heap.size < y4.heap.size) := Lib.hid HV4.out.lt; clear r1 r2)
           | (go_at_call 35; refine (distinct_any vn _ _ y5 HNO.out.1 (by have := HST.out.bt; have := HST.out.bu; omega)).mono ?_; rintro e9 y6 ⟨rfl, r2⟩; rw [HND.out]; have HV6 := Lib.hid (HV5.out.kp r2 (fun e => by have := HNO.out.2 _ e; have := HZ5.out; omega)); have HX6 : Hid (Below wy.heap.size wy y6) := Lib.hid (low_own HX5.out r2 (fun i hi e => by have := HNO.out.2 i e; have := HX4.out.size; omega)); clear r2)
           | fail)
          go_wp2_with fail
          refine Text.wp_region_text (fun w' => w'.cell? ⟨gp, 0, none⟩ = some (.map (some gm)) ∧ Below y6.heap.size y6 w') [(0, 4), (1, 4), (2, 4), (4, 4), (6, 4), (3, 0), (5, 0), (7, 0), (8, 3)] (by kernel_rfl) (by kernel_rfl) (fun _ _ _ _ _ h => h) (⟨(hpg.out.kept HX6.out).p.get (j := 0) rfl, (Below.refl _ _).drew⟩) ?_
          iterate 5 (refine Text.purek rfl rfl (fun K hK => ⟨_, fun w' => by go_simp <;> rfl, ?_⟩); go_simp; refine hK _ ?_; clear hK K)
          (refine Text.heldk rfl rfl (fun K hK => ⟨_, fun w' hw' => by go_simp <;> rfl, ?_⟩); go_simp; refine hK _ ?_; clear hK K)
          refine Text.heldk rfl rfl (fun K hK => ?_)
          refine ⟨_, fun w' hw' => exec_loadv 39 (.tmp 91) rfl 2 (by kernel_rfl) wy.heap.size 0 [.string (strB s), .int .i64 z] rfl (At.left (xs := [tv, uv]) (BL.all (HV6.out.kept hw'.2))) rfl, ?_⟩
          go_simp
          refine hK _ ?_
          clear hK K
          refine Text.heldk rfl rfl (fun K hK => ?_)
          refine ⟨_, fun w' hw' => exec_loadv 80 (.tmp 93) rfl 2 (by kernel_rfl) wy.heap.size 2 [tv, uv] rfl (at_skip (BL.all (HV6.out.kept hw'.2))) rfl, ?_⟩
          go_simp
          refine hK _ ?_
          clear hK K
          refine Text.last rfl rfl (fun K hK => ?_)
          refine wp_upd (.tmp 90) (.tmp 92) (.tmp 94) 92 39 80 rfl pidKeyed stMap gm _ rfl (hpg.out.kept HX6.out).m.drew (pidV s z) (stV tv uv) rfl rfl HKY.out ?_
          intro w11 L' h1 h2 h3 h4
          have HPX : Hid (PG w11 gp gm (rs.take (i + 1))) := Lib.hid (by
           rw [HTK.out]
           exact PG.add (x := ⟨⟨s, z, tk, us⟩, tv, uv⟩) (hpg.out.kept HX6.out).drew h1 h2 h3 ((HSX.out.kept (below_thenB hb.out hb.out.size HX6.out)).kp ((Kp.refl _ _).drew.trans h3) (fun q hq e => by have := HSX.out.lt hq; have := HPM.out; omega)) HNEWK.out HAPX.out ⟨fun hq => by have := HSX.out.lt hq; have := HPM.out; omega, fun hq => by have := HSX.out.lt hq; have := HPM.out; omega⟩)
          have HBX : Hid (Below w9.heap.size w9 w11) := Lib.hid (low_own (below_thenB hb.out hb.out.size HX6.out).drew h3 (fun q hq e => by have := HPM.out; omega))
          refine hK _ _ ?_
          clear hK K h1 h2 h3 h4
          refine Text.done ?_
          go_wp2_with fail
          go_roundw
          case rel => exact ⟨i + 1, by omega, by go_num, HPX, HNV, HNA, HBX⟩
          case measure => simp [intOf]; omega
         ·
          obtain ⟨j, hj⟩ : ∃ j, j + 1 = i := ⟨i - 1, by omega⟩
          have fi : decide ((0 : Int) < (i : Int)) = true := decide_eq_true (by omega)
          have fi' : decide (0 < i) = true := decide_eq_true (by omega)
          have fw : IntKind.i64.wrap ((i : Int) - 1) = (j : Int) := by rw [IntWalk.i64_in _ (by omega)]; omega
          have fj : (i : Int) - 1 = (j : Int) := by omega
          have hjl : j < rs.length := by omega
          have hjk : j < k := by omega
          have hjki : (j : Int) < (k : Int) := by omega
          have HATY := Lib.hid ((At.elem (f := seC) seC_length HHAT.out hjl).kept hb.out)
          obtain ⟨y, hy⟩ : ∃ y, y = rs[j] := ⟨_, rfl⟩
          rw [← hy] at HATY
          have HPY : Hid (pvE rs i = some (idE y.e)) := Lib.hid (by rw [← hj]; show (rs[j]?).map _ = _; rw [List.getElem?_eq_getElem hjl, hy]; rfl)
          have HTJ : Hid (rs.take i = rs.take j ++ [y]) := Lib.hid (by rw [← hj, List.take_succ_eq_append_getElem hjl, hy])
          clear hy h4
          obtain ⟨⟨sy, zy, tky, usy⟩, tvy, uvy⟩ := y
          have HATY : Hid (At wy g' (o' + j * 4) [.string (strB sy), .int .i64 zy, tvy, uvy]) := Lib.hid HATY.out
          obtain ⟨r1, q1⟩ : ∃ r, r = cmpS sy s := ⟨_, rfl⟩
          obtain ⟨r2, q2⟩ : ∃ r, r = Lib.compareInt zy z := ⟨_, rfl⟩
          have H1 := Lib.hid q1
          have H2 := Lib.hid q2
          obtain ⟨r3, q3⟩ : ∃ r, r = (if r1 = 0 then r2 else r1) := ⟨_, rfl⟩
          have H3 := Lib.hid q3
          have HLT : Hid (decide (r3 < 0) = ltI (sy, zy) (s, z)) := Lib.hid (by
           rw [← cf_lt, cfI, q3, q1, q2])
          clear q1 q2 q3
          cases h5 : ltI (sy, zy) (s, z) with
          | false =>
           have f5 : decide ((0 : Int) ≤ r3) = true := decide_eq_true (by have h9 := HLT.out; rw [h5] at h9; have := of_decide_eq_false h9; omega)
           have HBADV : Hid (validE none R.1 = false) := Lib.hid (by
            rw [HVS.out, HPY.out, HOK.out]
            show (true && (ltI (sy, zy) (s, z) && _)) = false
            rw [h5]; rfl)
           clear h5 HLT
           go_wp2_with (first
            | ((with_reducible show OpW 46); refine wpList_loadv _ rfl 82 (.tmp 45) rfl 4 (by kernel_rfl) g' (o' + i * 4) [.string (strB s), .int .i64 z, tv, uv] (by go_simp) HAT.out rfl ?_)
            | ((with_reducible show OpW 11); refine wpList_alloc _ rfl 82 rfl reZ reZero ?_; intro y1 a1 a2 a3; have HV1 := Lib.hid a1; have HX1 := Lib.hid a2; clear a1 a2 a3)
            | ((with_reducible show OpN); refine wpList_storev _ rfl 82 (.tmp 11) (.tmp 46) rfl 4 (by kernel_rfl) wy.heap.size 0 _ reZ [.string (strB s), .int .i64 z, tv, uv] rfl rfl HV1.out rfl HONE.out (by decide) ?_; intro y2 a1 a2 a3; have HV2 : Hid (BL y2 wy.heap.size 82 [.string (strB s), .int .i64 z, tv, uv]) := Lib.hid a1; have HX2 : Hid (Below wy.heap.size wy y2) := Lib.hid (low_own HX1.out a2 (fun i hi e => by omega)); clear a1 a2 a3)
            | ((with_reducible show OpW 48); refine wpList_loadv _ rfl 39 (.tmp 47) rfl 2 (by kernel_rfl) wy.heap.size 0 [.string (strB s), .int .i64 z] rfl (At.left (xs := [tv, uv]) (BL.all HV2.out)) rfl ?_)
            | (go_at_call 33; refine (isID_any s z y2).mono ?_; rintro e9 y3 ⟨rfl, b1⟩; rw [HIDB.out]; have HX3 := Lib.hid (below_thenB HX2.out HX2.out.size b1); have HV3 := Lib.hid (HV2.out.kept b1); clear b1)
            | ((with_reducible show OpW 53); refine wpList_loadvg _ rfl 80 (.tmp 52) rfl 2 (by kernel_rfl) wy.heap.size 2 [tv, uv] rfl (at_skip (BL.all HV3.out)) rfl ?_)
            | (go_at_call 34; refine (stsize_any y3 tv uv tk us (HST.out.kept (below_thenB hb.out hb.out.size HX3.out))).mono ?_; rintro e9 y4 ⟨rfl, b1⟩; rw [← HTT.out]; have HX4 := Lib.hid (below_thenB HX3.out HX3.out.size b1); have HV4 := Lib.hid (HV3.out.kept b1); clear b1)
            | ((with_reducible show OpW 59); refine wpList_loadvg _ rfl 80 (.tmp 58) rfl 2 (by kernel_rfl) wy.heap.size 2 [tv, uv] rfl (at_skip (BL.all HV4.out)) rfl ?_)
            | (go_at_call 36; refine (nonces_any y4 tv uv tk us (HST.out.kept (below_thenB hb.out hb.out.size HX4.out))).mono ?_; rintro e9 y5 ⟨vn, rfl, r1, r2⟩; have HNO := Lib.hid r1; have HX5 := Lib.hid (below_thenB HX4.out HX4.out.size r2); have HV5 := Lib.hid (HV4.out.kept r2); have HZ5 : Hid (wy.heap.size < y4.heap.size) := Lib.hid HV4.out.lt; clear r1 r2)
            | (go_at_call 35; refine (distinct_any vn _ _ y5 HNO.out.1 (by have := HST.out.bt; have := HST.out.bu; omega)).mono ?_; rintro e9 y6 ⟨rfl, r2⟩; rw [HND.out]; have HV6 := Lib.hid (HV5.out.kp r2 (fun e => by have := HNO.out.2 _ e; have := HZ5.out; omega)); have HX6 : Hid (Below wy.heap.size wy y6) := Lib.hid (low_own HX5.out r2 (fun i hi e => by have := HNO.out.2 i e; have := HX4.out.size; omega)); clear r2)
            | ((with_reducible show OpW 71); refine wpList_loadv _ rfl 39 (.tmp 70) rfl 2 (by kernel_rfl) g' (o' + j * 4) [.string (strB sy), .int .i64 zy] (by go_simp) (At.left (xs := [tvy, uvy]) (cell_at HATY.out HX6.out)) rfl ?_)
            | ((with_reducible show OpW 12); refine wpList_alloc _ rfl 39 rfl pidZ pidZero ?_; intro y7 a1 a2 a3; have HP7 := Lib.hid a1; have HV7 := Lib.hid (HV6.out.kept a2); have HX7 := Lib.hid (below_thenB HX6.out HX6.out.size a2); have HXp := Lib.hid a2; clear a1 a2 a3)
            | ((with_reducible show OpN); refine wpList_storev _ rfl 39 (.tmp 12) (.tmp 71) rfl 2 (by kernel_rfl) y6.heap.size 0 _ pidZ [.string (strB sy), .int .i64 zy] rfl rfl HP7.out rfl (one_val _ rfl) (by decide) ?_; intro y8 a1 a2 a3; have HP8 : Hid (BL y8 y6.heap.size 39 [.string (strB sy), .int .i64 zy]) := Lib.hid a1; have HV8 := Lib.hid (a2.bl HV7.out (by have := HV6.out.lt; omega)); have HX8 : Hid (Below wy.heap.size wy y8) := Lib.hid (low_own HX7.out a2 (fun i hi e => by have := HX6.out.size; omega)); clear a1 a2 a3)
            | fail)
           go_wp2_with fail
           have HS : Hid (y8.drew.cell? ⟨y6.heap.size, 0, none⟩ = some (.string (strB sy)) ∧ y8.drew.cell? ⟨y6.heap.size, 1, none⟩ = some (.int .i64 zy) ∧ y8.drew.cell? ⟨wy.heap.size, 0, none⟩ = some (.string (strB s)) ∧ y8.drew.cell? ⟨wy.heap.size, 1, none⟩ = some (.int .i64 z)) := Lib.hid
            ⟨HP8.out.get (j := 0) rfl, HP8.out.get (j := 1) rfl, HV8.out.get (j := 0) rfl, HV8.out.get (j := 1) rfl⟩
           refine Text.wp_region_text (fun w' => w'.cell? ⟨y6.heap.size, 0, none⟩ = some (.string (strB sy)) ∧ w'.cell? ⟨y6.heap.size, 1, none⟩ = some (.int .i64 zy) ∧ w'.cell? ⟨wy.heap.size, 0, none⟩ = some (.string (strB s)) ∧ w'.cell? ⟨wy.heap.size, 1, none⟩ = some (.int .i64 z)) [(0, 4), (2, 4), (3, 4), (6, 4), (8, 4), (9, 4), (1, 0), (4, 0), (7, 0), (10, 0), (5, 2), (11, 2), (12, 2), (13, 2), (14, 4)] (by kernel_rfl) (by kernel_rfl) (fun _ _ _ _ _ h => h) (HS.out) ?_
           iterate 6 (refine Text.purek rfl rfl (fun K hK => ⟨_, fun w' => by go_simp <;> rfl, ?_⟩); go_simp; refine hK _ ?_; clear hK K)
           iterate 4 (refine Text.heldk rfl rfl (fun K hK => ⟨_, fun w' hw' => by go_simp <;> rfl, ?_⟩); go_simp; refine hK _ ?_; clear hK K)
           refine Text.eff rfl rfl (fun K hK => ?_)
           go_simp
           refine (Compare_str sy s _).mono ?_
           rintro e w3 ⟨rfl, hw⟩
           rw [hw, ← H1.out]
           clear hw w3
           refine hK _ _ HS.out ?_
           clear hK K
           refine Text.eff rfl rfl (fun K hK => ?_)
           go_simp
           refine (Compare_int zy z _).mono ?_
           rintro e w3 ⟨rfl, hw⟩
           rw [hw, ← H2.out]
           clear hw w3
           refine hK _ _ HS.out ?_
           clear hK K
           refine Text.eff rfl rfl (fun K hK => ?_)
           refine Text.bag_run (show (execOp _ _).run Tryz.prog y8.drew = .ok (.value _) _ from exec_bsl rfl (ps := #[(0, .int .i64 r1), (1, .int .i64 r2)]) (by rw [List.map_toArray]; rfl) (bslI2 r1 r2 _)) ?_
           obtain ⟨y9, hy9⟩ : ∃ y, y = y8.drew.alloc (.cells [.int .i64 r1, .int .i64 r2].toArray 3) := ⟨_, rfl⟩
           have hx9 : Below y8.heap.size y8 y9 := by rw [hy9]; exact (Below.refl _ _).drew.alloc (Nat.le_refl _) _
           have HA : Hid (BL y9 y8.drew.heap.size 3 [.int .i64 r1, .int .i64 r2]) := Lib.hid (by rw [hy9]; exact BL.new _ _ _)
           rw [← hy9]
           clear hy9
           have HX9 : Hid (Below wy.heap.size wy y9) := Lib.hid (below_thenB HX8.out HX8.out.size hx9)
           have HV9 := Lib.hid (HV8.out.kept hx9)
           have HP9 := Lib.hid (HP8.out.kept hx9)
           clear hx9
           have HS9 : Hid (y9.cell? ⟨y6.heap.size, 0, none⟩ = some (.string (strB sy)) ∧ y9.cell? ⟨y6.heap.size, 1, none⟩ = some (.int .i64 zy) ∧ y9.cell? ⟨wy.heap.size, 0, none⟩ = some (.string (strB s)) ∧ y9.cell? ⟨wy.heap.size, 1, none⟩ = some (.int .i64 z)) := Lib.hid
            ⟨HP9.out.get (j := 0) rfl, HP9.out.get (j := 1) rfl, HV9.out.get (j := 0) rfl, HV9.out.get (j := 1) rfl⟩
           refine hK _ _ HS9.out ?_
           clear hK K
           refine Text.eff rfl rfl (fun K hK => ?_)
           go_simp
           refine (or_int r1 r2 _ _ HA.out).mono ?_
           rintro e w3 ⟨rfl, hw⟩
           rw [hw, ← H3.out]
           clear hw w3
           refine hK _ _ HS9.out ?_
           clear hK K
           (refine Text.purek rfl rfl (fun K hK => ⟨_, fun w' => by go_simp <;> rfl, ?_⟩); go_simp; refine hK _ ?_; clear hK K)
           refine Text.done ?_
           go_wp2_with fail
           go_ret2
           exact DcR.bad (HD3.out HBADV.out) (by decide) (below_thenB HB9.out HB9.out.size (below_thenB hb.out hb.out.size HX9.out))
          | true =>
           have f5 : decide ((0 : Int) ≤ r3) = false := decide_eq_false (by have h9 := HLT.out; rw [h5] at h9; have := of_decide_eq_true h9; omega)
           have HNV : Hid (validE none R.1 = validE (pvE rs (i + 1)) ((rs.drop (i + 1)).map (·.e))) := Lib.hid (by
            rw [HVS.out, HPV.out, HPY.out, HOK.out]
            show (true && (ltI (sy, zy) (s, z) && _)) = _
            rw [h5]; rfl)
           have HALLT : Hid (∀ a ∈ (rs.take i).map (fun x => idE x.e), ltI a (s, z) = true) := Lib.hid (by
            have h9 := hasc.out
            rw [HTJ.out, List.map_append] at h9 ⊢
            exact asc_all h9 h5)
           have HNA : Hid (((rs.take (i + 1)).map fun x => idE x.e).Pairwise (fun a b => ltI a b = true)) := Lib.hid (by
            rw [HTK.out, List.map_append]
            exact List.pairwise_append.2 ⟨hasc.out, by simp, fun a ha b hb9 => by rw [List.mem_singleton.1 hb9]; exact HALLT.out a ha⟩)
           have HNEWK : Hid (∀ y ∈ rs.take i, idE y.e ≠ idE ⟨s, z, tk, us⟩) := Lib.hid (fun y hy e => by
            have h9 := HALLT.out _ (List.mem_map.2 ⟨y, hy, rfl⟩)
            rw [e] at h9
            have h8 := ltI_irr (s, z)
            rw [show idE ⟨s, z, tk, us⟩ = (s, z) from rfl] at h9
            rw [h8] at h9
            cases h9)
           clear h5 HLT
           go_wp2_with (first
            | ((with_reducible show OpW 46); refine wpList_loadv _ rfl 82 (.tmp 45) rfl 4 (by kernel_rfl) g' (o' + i * 4) [.string (strB s), .int .i64 z, tv, uv] (by go_simp) HAT.out rfl ?_)
            | ((with_reducible show OpW 11); refine wpList_alloc _ rfl 82 rfl reZ reZero ?_; intro y1 a1 a2 a3; have HV1 := Lib.hid a1; have HX1 := Lib.hid a2; clear a1 a2 a3)
            | ((with_reducible show OpN); refine wpList_storev _ rfl 82 (.tmp 11) (.tmp 46) rfl 4 (by kernel_rfl) wy.heap.size 0 _ reZ [.string (strB s), .int .i64 z, tv, uv] rfl rfl HV1.out rfl HONE.out (by decide) ?_; intro y2 a1 a2 a3; have HV2 : Hid (BL y2 wy.heap.size 82 [.string (strB s), .int .i64 z, tv, uv]) := Lib.hid a1; have HX2 : Hid (Below wy.heap.size wy y2) := Lib.hid (low_own HX1.out a2 (fun i hi e => by omega)); clear a1 a2 a3)
            | ((with_reducible show OpW 48); refine wpList_loadv _ rfl 39 (.tmp 47) rfl 2 (by kernel_rfl) wy.heap.size 0 [.string (strB s), .int .i64 z] rfl (At.left (xs := [tv, uv]) (BL.all HV2.out)) rfl ?_)
            | (go_at_call 33; refine (isID_any s z y2).mono ?_; rintro e9 y3 ⟨rfl, b1⟩; rw [HIDB.out]; have HX3 := Lib.hid (below_thenB HX2.out HX2.out.size b1); have HV3 := Lib.hid (HV2.out.kept b1); clear b1)
            | ((with_reducible show OpW 53); refine wpList_loadvg _ rfl 80 (.tmp 52) rfl 2 (by kernel_rfl) wy.heap.size 2 [tv, uv] rfl (at_skip (BL.all HV3.out)) rfl ?_)
            | (go_at_call 34; refine (stsize_any y3 tv uv tk us (HST.out.kept (below_thenB hb.out hb.out.size HX3.out))).mono ?_; rintro e9 y4 ⟨rfl, b1⟩; rw [← HTT.out]; have HX4 := Lib.hid (below_thenB HX3.out HX3.out.size b1); have HV4 := Lib.hid (HV3.out.kept b1); clear b1)
            | ((with_reducible show OpW 59); refine wpList_loadvg _ rfl 80 (.tmp 58) rfl 2 (by kernel_rfl) wy.heap.size 2 [tv, uv] rfl (at_skip (BL.all HV4.out)) rfl ?_)
            | (go_at_call 36; refine (nonces_any y4 tv uv tk us (HST.out.kept (below_thenB hb.out hb.out.size HX4.out))).mono ?_; rintro e9 y5 ⟨vn, rfl, r1, r2⟩; have HNO := Lib.hid r1; have HX5 := Lib.hid (below_thenB HX4.out HX4.out.size r2); have HV5 := Lib.hid (HV4.out.kept r2); have HZ5 : Hid (wy.heap.size < y4.heap.size) := Lib.hid HV4.out.lt; clear r1 r2)
            | (go_at_call 35; refine (distinct_any vn _ _ y5 HNO.out.1 (by have := HST.out.bt; have := HST.out.bu; omega)).mono ?_; rintro e9 y6 ⟨rfl, r2⟩; rw [HND.out]; have HV6 := Lib.hid (HV5.out.kp r2 (fun e => by have := HNO.out.2 _ e; have := HZ5.out; omega)); have HX6 : Hid (Below wy.heap.size wy y6) := Lib.hid (low_own HX5.out r2 (fun i hi e => by have := HNO.out.2 i e; have := HX4.out.size; omega)); clear r2)
            | ((with_reducible show OpW 71); refine wpList_loadv _ rfl 39 (.tmp 70) rfl 2 (by kernel_rfl) g' (o' + j * 4) [.string (strB sy), .int .i64 zy] (by go_simp) (At.left (xs := [tvy, uvy]) (cell_at HATY.out HX6.out)) rfl ?_)
            | ((with_reducible show OpW 12); refine wpList_alloc _ rfl 39 rfl pidZ pidZero ?_; intro y7 a1 a2 a3; have HP7 := Lib.hid a1; have HV7 := Lib.hid (HV6.out.kept a2); have HX7 := Lib.hid (below_thenB HX6.out HX6.out.size a2); have HXp := Lib.hid a2; clear a1 a2 a3)
            | ((with_reducible show OpN); refine wpList_storev _ rfl 39 (.tmp 12) (.tmp 71) rfl 2 (by kernel_rfl) y6.heap.size 0 _ pidZ [.string (strB sy), .int .i64 zy] rfl rfl HP7.out rfl (one_val _ rfl) (by decide) ?_; intro y8 a1 a2 a3; have HP8 : Hid (BL y8 y6.heap.size 39 [.string (strB sy), .int .i64 zy]) := Lib.hid a1; have HV8 := Lib.hid (a2.bl HV7.out (by have := HV6.out.lt; omega)); have HX8 : Hid (Below wy.heap.size wy y8) := Lib.hid (low_own HX7.out a2 (fun i hi e => by have := HX6.out.size; omega)); clear a1 a2 a3)
            | fail)
           go_wp2_with fail
           have HS : Hid (y8.drew.cell? ⟨y6.heap.size, 0, none⟩ = some (.string (strB sy)) ∧ y8.drew.cell? ⟨y6.heap.size, 1, none⟩ = some (.int .i64 zy) ∧ y8.drew.cell? ⟨wy.heap.size, 0, none⟩ = some (.string (strB s)) ∧ y8.drew.cell? ⟨wy.heap.size, 1, none⟩ = some (.int .i64 z)) := Lib.hid
            ⟨HP8.out.get (j := 0) rfl, HP8.out.get (j := 1) rfl, HV8.out.get (j := 0) rfl, HV8.out.get (j := 1) rfl⟩
           refine Text.wp_region_text (fun w' => w'.cell? ⟨y6.heap.size, 0, none⟩ = some (.string (strB sy)) ∧ w'.cell? ⟨y6.heap.size, 1, none⟩ = some (.int .i64 zy) ∧ w'.cell? ⟨wy.heap.size, 0, none⟩ = some (.string (strB s)) ∧ w'.cell? ⟨wy.heap.size, 1, none⟩ = some (.int .i64 z)) [(0, 4), (2, 4), (3, 4), (6, 4), (8, 4), (9, 4), (1, 0), (4, 0), (7, 0), (10, 0), (5, 2), (11, 2), (12, 2), (13, 2), (14, 4)] (by kernel_rfl) (by kernel_rfl) (fun _ _ _ _ _ h => h) (HS.out) ?_
           iterate 6 (refine Text.purek rfl rfl (fun K hK => ⟨_, fun w' => by go_simp <;> rfl, ?_⟩); go_simp; refine hK _ ?_; clear hK K)
           iterate 4 (refine Text.heldk rfl rfl (fun K hK => ⟨_, fun w' hw' => by go_simp <;> rfl, ?_⟩); go_simp; refine hK _ ?_; clear hK K)
           refine Text.eff rfl rfl (fun K hK => ?_)
           go_simp
           refine (Compare_str sy s _).mono ?_
           rintro e w3 ⟨rfl, hw⟩
           rw [hw, ← H1.out]
           clear hw w3
           refine hK _ _ HS.out ?_
           clear hK K
           refine Text.eff rfl rfl (fun K hK => ?_)
           go_simp
           refine (Compare_int zy z _).mono ?_
           rintro e w3 ⟨rfl, hw⟩
           rw [hw, ← H2.out]
           clear hw w3
           refine hK _ _ HS.out ?_
           clear hK K
           refine Text.eff rfl rfl (fun K hK => ?_)
           refine Text.bag_run (show (execOp _ _).run Tryz.prog y8.drew = .ok (.value _) _ from exec_bsl rfl (ps := #[(0, .int .i64 r1), (1, .int .i64 r2)]) (by rw [List.map_toArray]; rfl) (bslI2 r1 r2 _)) ?_
           obtain ⟨y9, hy9⟩ : ∃ y, y = y8.drew.alloc (.cells [.int .i64 r1, .int .i64 r2].toArray 3) := ⟨_, rfl⟩
           have hx9 : Below y8.heap.size y8 y9 := by rw [hy9]; exact (Below.refl _ _).drew.alloc (Nat.le_refl _) _
           have HA : Hid (BL y9 y8.drew.heap.size 3 [.int .i64 r1, .int .i64 r2]) := Lib.hid (by rw [hy9]; exact BL.new _ _ _)
           rw [← hy9]
           clear hy9
           have HX9 : Hid (Below wy.heap.size wy y9) := Lib.hid (below_thenB HX8.out HX8.out.size hx9)
           have HV9 := Lib.hid (HV8.out.kept hx9)
           have HP9 := Lib.hid (HP8.out.kept hx9)
           clear hx9
           have HS9 : Hid (y9.cell? ⟨y6.heap.size, 0, none⟩ = some (.string (strB sy)) ∧ y9.cell? ⟨y6.heap.size, 1, none⟩ = some (.int .i64 zy) ∧ y9.cell? ⟨wy.heap.size, 0, none⟩ = some (.string (strB s)) ∧ y9.cell? ⟨wy.heap.size, 1, none⟩ = some (.int .i64 z)) := Lib.hid
            ⟨HP9.out.get (j := 0) rfl, HP9.out.get (j := 1) rfl, HV9.out.get (j := 0) rfl, HV9.out.get (j := 1) rfl⟩
           refine hK _ _ HS9.out ?_
           clear hK K
           refine Text.eff rfl rfl (fun K hK => ?_)
           go_simp
           refine (or_int r1 r2 _ _ HA.out).mono ?_
           rintro e w3 ⟨rfl, hw⟩
           rw [hw, ← H3.out]
           clear hw w3
           refine hK _ _ HS9.out ?_
           clear hK K
           (refine Text.purek rfl rfl (fun K hK => ⟨_, fun w' => by go_simp <;> rfl, ?_⟩); go_simp; refine hK _ ?_; clear hK K)
           refine Text.done ?_
           go_wp2_with fail
           refine Text.wp_region_text (fun w' => w'.cell? ⟨gp, 0, none⟩ = some (.map (some gm)) ∧ Below y9.heap.size y9 w') [(0, 4), (1, 4), (2, 4), (4, 4), (6, 4), (3, 0), (5, 0), (7, 0), (8, 3)] (by kernel_rfl) (by kernel_rfl) (fun _ _ _ _ _ h => h) (⟨(hpg.out.kept HX9.out).p.get (j := 0) rfl, (Below.refl _ _).drew⟩) ?_
           iterate 5 (refine Text.purek rfl rfl (fun K hK => ⟨_, fun w' => by go_simp <;> rfl, ?_⟩); go_simp; refine hK _ ?_; clear hK K)
           (refine Text.heldk rfl rfl (fun K hK => ⟨_, fun w' hw' => by go_simp <;> rfl, ?_⟩); go_simp; refine hK _ ?_; clear hK K)
           refine Text.heldk rfl rfl (fun K hK => ?_)
           refine ⟨_, fun w' hw' => exec_loadv 39 (.tmp 91) rfl 2 (by kernel_rfl) wy.heap.size 0 [.string (strB s), .int .i64 z] rfl (At.left (xs := [tv, uv]) (BL.all (HV9.out.kept hw'.2))) rfl, ?_⟩
           go_simp
           refine hK _ ?_
           clear hK K
           refine Text.heldk rfl rfl (fun K hK => ?_)
           refine ⟨_, fun w' hw' => exec_loadv 80 (.tmp 93) rfl 2 (by kernel_rfl) wy.heap.size 2 [tv, uv] rfl (at_skip (BL.all (HV9.out.kept hw'.2))) rfl, ?_⟩
           go_simp
           refine hK _ ?_
           clear hK K
           refine Text.last rfl rfl (fun K hK => ?_)
           refine wp_upd (.tmp 90) (.tmp 92) (.tmp 94) 92 39 80 rfl pidKeyed stMap gm _ rfl (hpg.out.kept HX9.out).m.drew (pidV s z) (stV tv uv) rfl rfl HKY.out ?_
           intro w11 L' h1 h2 h3 h4
           have HPX : Hid (PG w11 gp gm (rs.take (i + 1))) := Lib.hid (by
            rw [HTK.out]
            exact PG.add (x := ⟨⟨s, z, tk, us⟩, tv, uv⟩) (hpg.out.kept HX9.out).drew h1 h2 h3 ((HSX.out.kept (below_thenB hb.out hb.out.size HX9.out)).kp ((Kp.refl _ _).drew.trans h3) (fun q hq e => by have := HSX.out.lt hq; have := HPM.out; omega)) HNEWK.out HAPX.out ⟨fun hq => by have := HSX.out.lt hq; have := HPM.out; omega, fun hq => by have := HSX.out.lt hq; have := HPM.out; omega⟩)
           have HBX : Hid (Below w9.heap.size w9 w11) := Lib.hid (low_own (below_thenB hb.out hb.out.size HX9.out).drew h3 (fun q hq e => by have := HPM.out; omega))
           refine hK _ _ ?_
           clear hK K h1 h2 h3 h4
           refine Text.done ?_
           go_wp2_with fail
           go_roundw
           case rel => exact ⟨i + 1, by omega, by go_num, HPX, HNV, HNA, HBX⟩
           case measure => simp [intOf]; omega
     ·
      obtain rfl : i = k := by omega
      have hpe := hpg.out
      rw [List.take_of_length_le (by omega)] at hpe
      have HPE := Lib.hid hpe
      have HVT : Hid (validE none R.1 = true) := Lib.hid (by rw [hval.out, List.drop_eq_nil_of_le (by omega)]; cases pvE rs i <;> rfl)
      have HSE : Hid (sizeS rs = sizeE R.1) := Lib.hid (by rw [← HRS.out]; unfold sizeS sizeE; rw [List.map_map]; rfl)
      obtain ⟨sz, hsz⟩ : ∃ sz, sz = sizeE R.1 := ⟨_, rfl⟩
      rw [← hsz] at HSE
      have HSZ := Lib.hid hsz
      clear hsz hpe
      by_cases h9 : 4096 < sz
      ·
       have f9 : decide ((4096 : Int) < (sz : Int)) = true := decide_eq_true (by omega)
       have f9' : decide (4096 < sz) = true := decide_eq_true h9
       have HDX := Lib.hid (HDS.out (by rw [← HSZ.out]; exact h9))
       clear h9
       go_wp2_with (first
        | (go_at_call 40; refine (psize_any wy gp gm rs HPE.out (by have := HC4.out; omega)).mono ?_; rintro e9 y3 ⟨rfl, b1⟩; rw [HSE.out]; have HX3 := Lib.hid b1; clear b1))
       go_ret2
       exact DcR.bad HDX.out (by decide) (below_thenB HB9.out HB9.out.size (below_thenB hb.out hb.out.size HX3.out))
      ·
       have f9 : decide ((4096 : Int) < (sz : Int)) = false := decide_eq_false (by omega)
       have f9' : decide (4096 < sz) = false := decide_eq_false h9
       have HDX := Lib.hid (HD0.out HVT.out (by rw [← HSZ.out]; omega))
       clear h9
       go_wp2_with (first
        | (go_at_call 40; refine (psize_any wy gp gm rs HPE.out (by have := HC4.out; omega)).mono ?_; rintro e9 y3 ⟨rfl, b1⟩; rw [HSE.out]; have HX3 := Lib.hid b1; clear b1))
       go_ret2
       refine ⟨_, by rw [HDX.out]; rfl, ?_, below_thenB HB9.out HB9.out.size (below_thenB hb.out hb.out.size HX3.out)⟩
       rw [HDX.out, if_pos rfl]
       refine ⟨gp, gm, rs, rfl, HPE.out.kept HX3.out, by rw [HALL.out]; exact HRS.out, fun q hq => ?_⟩
       have hw1 := HG.out
       have hw2 := HGL.out
       have hw3 := HZ9.out
       have hw4 := HPM.out
       rcases hq with rfl | rfl | ⟨x, hx, hq⟩
       ·
        omega
       ·
        omega
       ·
        have := HRL9.out.lo x hx q hq
        omega
   ·
    have HDEC : Hid (decP b = ez) := Lib.hid (by
     unfold decP
     rw [HALL.out, HL.out, ← HEZ.out, if_neg h0])
    have fez : (ez != 0) = true := by rw [bne_iff_ne]; exact h0
    have HNE := Lib.hid h0
    clear h0
    go_wp2_with (first
     | (go_at_call 32; refine (end_any wx g n c2 A2 b R.2 hd.out).mono ?_; rintro e9 w9 ⟨⟨z9, rfl⟩, b9⟩; rw [← HEZ.out]; have HB9 : Hid (Below w.heap.size w w9) := Lib.hid (below_thenB hb.out hb.out.size b9); clear b9))
    go_ret2
    exact DcR.bad HDEC.out HNE.out HB9.out
end Go.Proofs.YtheijpjfpaghfaaGreatDoor
