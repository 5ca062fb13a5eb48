/- The reference's number. -/
import Derived.Test.YtfonbliomokffaaGreatC21
import Derived.Test.YtfonbliomokffaaGreatRnvm
namespace Go.Proofs.YtfonbliomokffaaGreat
open Go Go.RowKit Gf Sha

/-- A byte. -/
def rB8 : Rdg UInt8 := fun _ cs x => cs = [B x]
theorem stay_b8 : Stay rB8 := fun _ _ _ _ h _ => h
theorem len_b8 {w : World} : ∀ cs x, rB8 w cs x → cs.length = 1 := fun cs x h => by rw [h]; rfl
theorem ones_b8 {w : World} : ∀ cs x, rB8 w cs x → ∀ u ∈ cs, u.oneCell' = true := fun cs x h u hu => by
  rw [h, List.mem_singleton] at hu; subst hu; rfl
theorem infoB8 : (Tryz.prog.info? 5).map (fun i => (i.zero, i.size, i.bytes)) = some (some (.int .u8 0), 1, 1) := by kernel_rfl
theorem b8_flat (l : List UInt8) : (l.map fun x => [B x]).flatten = l.map B := by
  induction l with
  | nil => rfl
  | cons a l ih => rw [List.map_cons, List.map_cons, List.flatten_cons, ih]; rfl
theorem own_ls8 {w w' : World} {g m c : Nat} {l : List UInt8} (h : w'.ownsRow w.heap.size 5 1 (.slice (some ⟨g, 0, none⟩) m c) m (l.map B)) (hm : m = l.length) (hl : m ≤ lim) : LS rB8 1 1 w' (some ⟨g, 0, none⟩) m c l := by
  obtain ⟨r1, _⟩ := RW.of_own h
  rw [← b8_flat] at r1
  exact rw_ls _ hm.symm r1 (by simp) (by intro cs hcs; obtain ⟨x, _, rfl⟩ := List.mem_map.1 hcs; rfl) (by
    intro p hp
    obtain ⟨i, hi, rfl⟩ := List.mem_iff_getElem.1 hp
    simp [rB8]) (by omega)
set_option maxRecDepth 100000 in
set_option maxHeartbeats 1000000 in
theorem refnum_any (w0 : World) (v : Value) (l : List UInt8) (z : Int) (w : World) (ho : OL rB8 1 5 w0 w v l) (hb : Below w0.heap.size w0 w) (h0 : 0 ≤ z) (h1 : z ≤ 9223372036854775807) (hl : l.length ≤ 1000000) :
    Calls Tryz.prog 64 #[v, .int .i64 z] w fun e w' => ∃ v', e = .returned v' ∧ OL rB8 1 5 w0 w' v' (l ++ uv z.toNat) ∧ Below w0.heap.size w0 w' := by
  obtain ⟨N, rfl⟩ : ∃ N : Nat, z = (N : Int) := ⟨z.toNat, by omega⟩
  rw [Int.toNat_natCast]
  have HO := Lib.hid ho
  have HB := Lib.hid hb
  have HN : Hid (N ≤ 9223372036854775807) := Lib.hid (by omega)
  have HLL := Lib.hid hl
  have HUV := Lib.hid (uv_length N)
  have hz : IntKind.u64.wrap (N : Int) = (N : Int) := by show (N : Int) % 18446744073709551616 = _; omega
  clear ho hb h0 h1 hl
  go_enter Tryz.func64, Tryz.ntmps64
  go_wp2_with (first
    | (go_at_call 91; refine (rnum_big N w HN.out).mono ?_; rintro e w1 ⟨⟨g, m, c', rfl, hm, x1⟩, x2⟩; have HLS := Lib.hid (own_ls8 x1 hm (by have := HUV.out; unfold lim; omega)); have HO1 := Lib.hid (HO.out.kept x2); have HB1 := Lib.hid (below_thenB HB.out HB.out.size x2); have HM := Lib.hid hm; clear x1 x2 hm)
    | ((with_reducible show wpList _ _ _ (⟨some 9, _, _, _, _, _⟩ :: _) _ _); refine wpList_plain rfl (fun K hK => ?_); obtain ⟨iS, i1, i2, i3, i4⟩ := info_some infoB8; obtain ⟨css, o1, o2, o3, o4, o5⟩ := HO1.out; obtain ⟨dss, k1, k2, k3, k4⟩ := HLS.out.src (P := Tryz.prog) len_b8 ones_b8 Tryz.underlying31; refine wp_appX _ (.tmp 5) (.tmp 8) 31 5 1 iS _ rfl Tryz.underlying31 i1 i2 i3 rfl _ l.length css.flatten rfl o4 _ m dss.flatten rfl (k4 _ (Below.refl _ _)) (by rw [i4]; have := HUV.out; have := HM.out; have := HLL.out; omega) (by have := HUV.out; have := HM.out; have := HLL.out; omega) (fun v2 w2 ap => hK _ _ ?_); have HR : Hid (OL rB8 1 5 w0 w2 v2 (l ++ uv N)) := Lib.hid (OL.app o1 o2 o3 o5 rfl k1 k2 k3 HM.out.symm HB1.out.size ap); have HB2 : Hid (Below w0.heap.size w0 w2) := Lib.hid (low_kp HB1.out ap.kp (fun j hj e => by have := o5 j e; omega)); clear hK K ap o1 o2 o3 o4 o5 k1 k2 k3 k4 i1 i2 i3 i4))
  go_ret
  exact ⟨_, rfl, HR.out, HB2.out⟩
end Go.Proofs.YtfonbliomokffaaGreat
