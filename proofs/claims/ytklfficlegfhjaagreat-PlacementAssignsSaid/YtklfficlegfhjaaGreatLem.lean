/- The reference's Moves, Spread. -/
import Derived.Test.YtklfficlegfhjaaGreatC9
import Derived.Test.YtklfficlegfhjaaGreatC7
namespace Go.Proofs.YtklfficlegfhjaaGreat
open Go Go.RowKit Gf Sha

def sameP (ps : List Pl) (x : Pl) : Bool := ps.any (fun v => decide (v.st = x.st ∧ v.ix = x.ix))
theorem spreadI_next {s : List UInt8} {ps : List Pl} {k : Nat} {x : Pl} (h : ps[k]? = some x) : spreadI s (ps.take (k + 1)) = spreadI s (ps.take k) + (if (decide (x.st = s) && !sameP (ps.take k) x) = true then 1 else 0) := by
 unfold spreadI
 rw [take_next h, spread_step]
 have e : x.st = s → (x.ix ∉ spreadL s (ps.take k) ↔ sameP (ps.take k) x = false) := fun hs => by
  rw [spread_mem]
  subst hs
  unfold hasIx sameP
  rw [Bool.not_eq_true]
 by_cases h1 : x.st = s
 ·
  cases h2 : sameP (ps.take k) x with
  | true =>
   rw [if_neg (fun h3 => by have := (e h1).1 h3.2; rw [h2] at this; cases this)]; simp
  | false =>
   rw [if_pos ⟨h1, (e h1).2 h2⟩]; simp [h1]
 ·
  rw [if_neg (fun h3 => h1 h3.1)]; simp [h1]
section
set_option maxRecDepth 100000
set_option maxHeartbeats 4000000
theorem rspread_any (s : List UInt8) (B : Option Addr) (m d : Nat) (ps : List Pl) (w : World) (hp : LS rPl 3 32 w B m d ps) :
  Calls Tryz.prog 33 #[.string (strB s), .slice B m d] w fun e w' => e = .returned (.int .i64 (spreadI s ps)) ∧ Below w.heap.size w w' := by
 have hm := hp.len_le
 have HP := Lib.hid hp
 have HL := Lib.hid hp.1
 clear hp
 go_enter Tryz.func33, Tryz.ntmps33
 go_wp2_with fail
 go_loopw [5, 6] (fun sv iv wr => ∃ (k : Nat) (z : Int), k ≤ m ∧ iv = .int .i64 (k : Int) ∧ sv = .int .i64 z ∧ Hid (z = spreadI s (ps.take k)) ∧ Hid (Below w.heap.size w wr)) (fun _ iv _ => m - (intOf iv).toNat)
 case atStart => exact ⟨0, 0, by omega, rfl, rfl, Lib.hid rfl, Lib.hid (Below.refl _ _)⟩
 case round =>
  obtain ⟨k, z, hk, rfl, rfl, hs, hb⟩ := hrel
  obtain ⟨wx, hwx⟩ : ∃ x, x = wr := ⟨_, rfl⟩
  rw [← hwx] at hb ⊢
  clear hwx
  by_cases hlt : k < m
  ·
   obtain ⟨x, g, o, hx, ea, hat, _⟩ := HP.out.pl_at hb.out hlt
   subst ea
   have HA := Lib.hid (At.pre (a := piL x.st x.ix) (b := [.int .i64 x.dv]) hat)
   have q0 : wx.cell? ⟨g, o + k * 3, none⟩ = some (.string (strB x.st)) := hat 0 _ rfl
   have HN := Lib.hid (spreadI_next (s := s) hx)
   have hr := spread_rng s (ps.take k)
   have hlen : (ps.take k).length ≤ k := by rw [List.length_take]; omega
   rw [← hs.out] at hr
   have hwr : IntKind.i64.wrap (z + 1) = z + 1 := IntWalk.i64_in _ (by omega)
   obtain ⟨b0, hb0⟩ : ∃ b, b = decide (x.st = s) := ⟨_, rfl⟩
   have e1 : ((strB x.st).toList == (strB s).toList) = b0 := by rw [hb0]; exact strB_eq _ _
   have HB0 := Lib.hid hb0
   have HS := hs
   clear hat hs hx hb0 hlen
   go_wp2_with fail
   go_loopw [7, 8] (fun bv jv wr => ∃ (j : Nat) (b : Bool), j ≤ k ∧ jv = .int .i64 (j : Int) ∧ bv = .bool b ∧ Hid (b = (b0 && !sameP (ps.take j) x)) ∧ Hid (Below wx.heap.size wx wr)) (fun _ jv _ => k - (intOf jv).toNat)
   case atStart => exact ⟨0, b0, by omega, rfl, rfl, Lib.hid (by simp [sameP]), Lib.hid (Below.refl _ _)⟩
   case round =>
    obtain ⟨j, b, hj, rfl, rfl, hbb, hb1⟩ := hrel
    obtain ⟨wy, hwy⟩ : ∃ x, x = wr := ⟨_, rfl⟩
    rw [← hwy] at hb1 ⊢
    clear hwy
    have HB1 := Lib.hid (below_then hb.out hb1.out)
    by_cases hlt2 : j < k
    ·
     obtain ⟨y, g', o', hy, ea, hat, _⟩ := HP.out.pl_at HB1.out (Nat.lt_trans hlt2 hlt)
     cases ea
     have hjm : j < m := Nat.lt_trans hlt2 hlt
     have HN2 : Hid (sameP (ps.take (j + 1)) x = (sameP (ps.take j) x || decide (y.st = x.st ∧ y.ix = x.ix))) := Lib.hid (by unfold sameP; rw [take_next hy, List.any_append]; simp)
     have p3 := Lib.hid ((At.pre (a := piL y.st y.ix) (b := [.int .i64 y.dv]) hat).kept (Below.refl _ wy).drew)
     have p4 := Lib.hid (HA.out.kept (below_then hb1.out (Below.refl _ wy).drew))
     clear hat hy
     by_cases h1 : y.st = x.st ∧ y.ix = x.ix
     ·
      have er : ∀ w, (Op.equalIn 10000 78 (.agg (piL y.st y.ix).toArray) (.agg (piL x.st x.ix).toArray)).run Tryz.prog w = .ok true w := fun w => by rw [eqIn_pi, decide_eq_true h1]
      have HF : Hid (false = (b0 && !sameP (ps.take (j + 1)) x)) := Lib.hid (by rw [HN2.out, decide_eq_true h1, Bool.or_true, Bool.not_true, Bool.and_false])
      clear h1
      go_wp2_with fail
      refine Text.wp_region_text (fun w' => At w' g (o + j * 3) (piL y.st y.ix) ∧ At w' g (o + k * 3) (piL x.st x.ix)) [(0, 4), (1, 4), (2, 4), (3, 4), (5, 4), (6, 4), (7, 4), (8, 4), (4, 0), (9, 0), (10, 4)] (by kernel_rfl) (by kernel_rfl) (fun _ _ _ _ _ h => h) (⟨p3.out, p4.out⟩) ?_
      iterate 8 (refine Text.purek rfl rfl (fun K hK => ⟨_, fun w' => by go_simp <;> rfl, ?_⟩); go_simp; refine hK _ ?_; clear hK K)
      refine Text.heldk rfl rfl (fun K hK => ?_)
      refine ⟨_, fun w' hw' => exec_loadv 78 (.tmp 31) rfl 2 (by kernel_rfl) g (o + j * 3) (piL y.st y.ix) (by go_simp) hw'.1 rfl, ?_⟩
      go_simp
      refine hK _ ?_
      clear hK K
      refine Text.heldk rfl rfl (fun K hK => ?_)
      refine ⟨_, fun w' hw' => exec_loadv 78 (.tmp 36) rfl 2 (by kernel_rfl) g (o + k * 3) (piL x.st x.ix) (by go_simp) hw'.2 rfl, ?_⟩
      go_simp
      refine hK _ ?_
      clear hK K
      (refine Text.purek rfl rfl (fun K hK => ⟨_, fun w' => by go_simp <;> rfl, ?_⟩); go_simp; refine hK _ ?_; clear hK K)
      refine Text.done ?_
      go_wp2_with fail
      go_roundw
      case rel => exact ⟨j + 1, false, by omega, by go_num, rfl, HF, Lib.hid hb1.out.drew⟩
      case measure => simp [intOf]; omega
     ·
      have er : ∀ w, (Op.equalIn 10000 78 (.agg (piL y.st y.ix).toArray) (.agg (piL x.st x.ix).toArray)).run Tryz.prog w = .ok false w := fun w => by rw [eqIn_pi, decide_eq_false h1]
      have HF : Hid (b = (b0 && !sameP (ps.take (j + 1)) x)) := Lib.hid (by rw [HN2.out, decide_eq_false h1, Bool.or_false]; exact hbb.out)
      clear h1
      go_wp2_with fail
      refine Text.wp_region_text (fun w' => At w' g (o + j * 3) (piL y.st y.ix) ∧ At w' g (o + k * 3) (piL x.st x.ix)) [(0, 4), (1, 4), (2, 4), (3, 4), (5, 4), (6, 4), (7, 4), (8, 4), (4, 0), (9, 0), (10, 4)] (by kernel_rfl) (by kernel_rfl) (fun _ _ _ _ _ h => h) (⟨p3.out, p4.out⟩) ?_
      iterate 8 (refine Text.purek rfl rfl (fun K hK => ⟨_, fun w' => by go_simp <;> rfl, ?_⟩); go_simp; refine hK _ ?_; clear hK K)
      refine Text.heldk rfl rfl (fun K hK => ?_)
      refine ⟨_, fun w' hw' => exec_loadv 78 (.tmp 31) rfl 2 (by kernel_rfl) g (o + j * 3) (piL y.st y.ix) (by go_simp) hw'.1 rfl, ?_⟩
      go_simp
      refine hK _ ?_
      clear hK K
      refine Text.heldk rfl rfl (fun K hK => ?_)
      refine ⟨_, fun w' hw' => exec_loadv 78 (.tmp 36) rfl 2 (by kernel_rfl) g (o + k * 3) (piL x.st x.ix) (by go_simp) hw'.2 rfl, ?_⟩
      go_simp
      refine hK _ ?_
      clear hK K
      (refine Text.purek rfl rfl (fun K hK => ⟨_, fun w' => by go_simp <;> rfl, ?_⟩); go_simp; refine hK _ ?_; clear hK K)
      refine Text.done ?_
      go_wp2_with fail
      go_roundw
      case rel => exact ⟨j + 1, b, by omega, by go_num, rfl, HF, Lib.hid hb1.out.drew⟩
      case measure => simp [intOf]; omega
    ·
     obtain rfl : j = k := by omega
     have HX : Hid (spreadI s (ps.take (j + 1)) = spreadI s (ps.take j) + (if b = true then 1 else 0)) := Lib.hid (by rw [HN.out, ← HB0.out, ← hbb.out])
     cases b with
     | true =>
      have HF : Hid (z + 1 = spreadI s (ps.take (j + 1))) := Lib.hid (by rw [HX.out, ← HS.out]; simp)
      go_wp2_with fail
      go_roundw
      case rel => exact ⟨j + 1, z + 1, by omega, by go_num, rfl, HF, HB1⟩
      case measure => simp [intOf]; omega
     | false =>
      have HF : Hid (z = spreadI s (ps.take (j + 1))) := Lib.hid (by rw [HX.out, ← HS.out]; simp)
      go_wp2_with fail
      go_roundw
      case rel => exact ⟨j + 1, z, by omega, by go_num, rfl, HF, HB1⟩
      case measure => simp [intOf]; omega
  ·
   obtain rfl : k = m := by omega
   go_wp2_with fail
   go_ret
   have e1 : ps.take k = ps := take_end HL.out
   exact ⟨by rw [← e1, ← hs.out]; rfl, hb.out⟩
end
end Go.Proofs.YtklfficlegfhjaaGreat
