/- Contract of the reference kinkeepref10.Refresh. -/
import Derived.Test.YtakedococfklgaaRe2m
import Derived.Test.YtakedococfklgaaLo0m
import Derived.Test.YtakedococfklgaaRfrm
import Derived.Deep.DeepCutAuto
namespace Go.Proofs.Ytakedococfklgaa
open Go.RowKit Gf

attribute [local go_sem] Gf.xor_bits Gf.bv_toNat Gf.bv_wrap

/-- The bytes of the refreshed share k, j of them. -/
def rrD (l : List (Int × List UInt8)) (co : List (List UInt8)) (L k j : Nat) : List UInt8 := tab j fun b => gB (gS l k).2 b ^^^ gB (spK (zeros L) co (gX l k) L) b
theorem rrD_length (l : List (Int × List UInt8)) (co : List (List UInt8)) (L k j : Nat) : (rrD l co L k j).length = j := tab_length _ _
theorem rrD_succ (l : List (Int × List UInt8)) (co : List (List UInt8)) (L k j : Nat) : rrD l co L k (j + 1) = rrD l co L k j ++ [gB (gS l k).2 j ^^^ gB (spK (zeros L) co (gX l k) L) j] := by
  unfold rrD tab; rw [List.range_succ, List.map_append]; rfl
def rrK (l : List (Int × List UInt8)) (co : List (List UInt8)) (L : Nat) : Nat → List (Int × List UInt8)
  | 0 => []
  | k + 1 => rrK l co L k ++ [((gS l k).1, rrD l co L k L)]

theorem BS.away' {w : World} {A : Option Addr} {k c : Nat} {d : List UInt8} (h : BS w A k c d) (p : Addr) (v : Value) (hA : 0 < k → AtB A (· ≠ p.block)) : BS (w.setCell p v) A k c d :=
  ⟨h.1, h.2.1, h.2.2.1, fun i hi => by
    obtain ⟨g', o', e, hc⟩ := h.2.2.2 i hi
    refine ⟨g', o', e, ?_⟩
    rw [World.cell?_setCell_other _ _ _ _ (by
      intro e9
      have := hA (by omega) _ e
      rw [e9] at this
      exact this rfl)]
    exact hc⟩
theorem bs_ne {w : World} {A A' : Option Addr} {n c n' c' g : Nat} {t : TypeId} {l : List UInt8} {x : Int} (h : BS w A n c l) (hk : Blk w g t #[.int .i64 x, .slice A' n' c']) : 0 < n → AtB A (· ≠ g) := fun h0 a ea e => by
  obtain ⟨g', o', e', hc⟩ := h.2.2.2 0 h0
  rw [ea] at e'
  injection e' with e'
  subst e'
  simp only at e
  subst e
  rw [hk.cell] at hc
  match o', hc with
  | 0, hc => simp [B] at hc
  | 1, hc => simp [B] at hc
  | o + 2, hc => simp at hc

set_option maxRecDepth 100000 in
set_option maxHeartbeats 4000000 in
theorem rrefresh_any (A Ac : Option Addr) (n c nc cc L : Nat) (l : List (Int × List UInt8)) (co : List (List UInt8)) (w : World) (h : SS w A n c l) (hc : MS w Ac nc cc co) (hE : Eql l L) (hL : L ≤ 100000) (hr : 0 < n → ∀ j, j < nc → (gR co j).length = L) (hnc : nc ≤ 200) (h64 : n ≤ 64) (hx : ∀ k, k < n → 1 ≤ (gS l k).1 ∧ (gS l k).1 ≤ 255) :
    Calls Try.prog 36 #[.slice A n c, .slice Ac nc cc] w fun e w' => ∃ v, e = .returned v ∧ OwnS w' w.heap.size v n (rrK l co L n) ∧ Below w.heap.size w w' := by
  have hn := h.len_le
  have H := Lib.hid h
  have HC := Lib.hid hc
  have HLn := Lib.hid h.1
  have HE := Lib.hid hE
  have HR := Lib.hid hr
  have HNC := Lib.hid hnc
  have H64 := Lib.hid h64
  have HX := Lib.hid hx
  have HLL := Lib.hid hL
  have hLb : (L : Int) ≤ 100000 := by omega
  clear h hc hE hr hnc h64 hx hL
  go_enter Try.func36, Try.ntmps36
  go_wp2_with fail
  go_loopw [5, 13] (fun v i wr => ∃ k : Nat, k ≤ n ∧ i = .int .i64 (k : Int) ∧ Hid (OwnS wr w.heap.size v k (rrK l co L k)) ∧ Hid (Below w.heap.size w wr)) (fun _ i _ => n - (intOf i).toNat)
  case atStart => exact ⟨0, by omega, rfl, Lib.hid (OwnS.nil _ _), Lib.hid (Below.refl _ _)⟩
  case round =>
    obtain ⟨k, hk, rfl, ho, hb⟩ := hrel
    by_cases hlt : k < n
    · obtain ⟨g1, o1, A1, n1, c1, rfl, q1, q2, q3⟩ := H.out.at_ hb.out hlt
      obtain rfl : n1 = L := by rw [← q3.1]; exact HE.out k (by rw [HLn.out]; exact hlt)
      obtain ⟨wy, rfl⟩ : ∃ wy : World, wy = wr := ⟨_, rfl⟩
      obtain ⟨X, hX⟩ : ∃ X, X = (gS l k).1 := ⟨_, rfl⟩
      rw [← hX] at q1
      have HXE := Lib.hid hX
      have HX1 : Hid (0 ≤ X ∧ X ≤ 255) := Lib.hid (by have := HX.out k hlt; rw [hX]; omega)
      clear hX
      obtain ⟨W4, hW4⟩ : ∃ W, W = wy.alloc (.cells #[.int .i64 X, .slice A1 n1 c1] 33) := ⟨_, rfl⟩
      have hb4 : Below wy.heap.size wy W4 := by rw [hW4]; exact kb1 _ _
      have hk4 : Blk W4 wy.heap.size 33 #[.int .i64 X, .slice A1 n1 c1] := by rw [hW4]; exact Blk.new _ _ _
      have HK4 := Lib.hid hk4
      have HB4 := Lib.hid hb4
      have HD4 := Lib.hid (q3.kept hb4)
      have HC4 := Lib.hid (HC.out.kept (below_then hb.out hb4))
      have p0 : W4.cell? ⟨wy.heap.size, 0, none⟩ = some (.int .i64 X) := by rw [hk4.cell]; rfl
      have p1 : W4.cell? ⟨wy.heap.size, 1, none⟩ = some (.slice A1 n1 c1) := by rw [hk4.cell]; rfl
      have hmk := make_bytes n1 (by omega)
      have HR1 := Lib.hid (HR.out (by omega))
      have HW4 := Lib.hid hW4
      have HLZ : Hid ((zeros n1).length = n1) := Lib.hid (zeros_length _)
      clear hW4 hb4 hk4 q3
      go_wp2_with fail
      rw [← HW4.out]
      go_cut [8] (fun s8 wx => ∃ (gz : Nat) (Az : Option Addr) (cz : Nat), s8 = .pointer (some ⟨gz, 0, none⟩) ∧ Hid (Blk wx gz 33 #[.int .i64 X, .slice Az n1 cz]) ∧ Hid (BS wx Az n1 cz (spK (zeros n1) co (UInt8.ofNat X.toNat) n1)) ∧ Hid (Below W4.heap.size W4 wx))
      case first =>
        refine Text.wp_region_bt (fun w' => w'.cell? ⟨wy.heap.size, 0, none⟩ = some (.int .i64 X) ∧ w'.cell? ⟨wy.heap.size, 1, none⟩ = some (.slice A1 n1 c1)) (.still 0 4 (.still 5 4 (.still 4 4 (.still 1 0 (.still 6 0 (.still 2 4 (.br 3 (.br 7 (.eff 8 (.last 9 .leaf)) 8 (.eff 7 (.last 9 .leaf))) 8 (.eff 3 (.eff 7 (.last 9 .leaf)))))))))) (by kernel_rfl) (by kernel_rfl) (fun _ _ _ _ _ h => h) (⟨p0, p1⟩) ?_
        obtain ⟨wd, hwd⟩ : ∃ W, W = W4.drew := ⟨_, rfl⟩
        have hbd : Below W4.heap.size W4 wd := by rw [hwd]; exact (Below.refl _ _).drew
        have HKd := Lib.hid (HK4.out.kept hbd)
        have HCd := Lib.hid (HC4.out.kept hbd)
        have HBd := Lib.hid hbd
        rw [← hwd]
        clear hbd hwd p0 p1
        iterate 3 (refine Text.bpurek rfl rfl (fun K hK => ⟨_, fun w' => by go_simp <;> rfl, ?_⟩); go_simp; refine hK _ ?_; clear hK K)
        (refine Text.bheldk rfl rfl (fun K hK => ⟨_, fun w' hw' => by have h9 := hw'.2; go_simp <;> rfl, ?_⟩); go_simp; refine hK _ ?_; clear hK K)
        (refine Text.bheldk rfl rfl (fun K hK => ⟨_, fun w' hw' => by have h9 := hw'.1; go_simp <;> rfl, ?_⟩); go_simp; refine hK _ ?_; clear hK K)
        (refine Text.bpurek rfl rfl (fun K hK => ⟨_, fun w' => by go_simp <;> rfl, ?_⟩); go_simp; refine hK _ ?_; clear hK K)
        refine Text.bfork ?_ ?_
        · refine Text.beff rfl rfl (fun K hK => ?_)
          go_simp
          obtain ⟨e1, he1⟩ : ∃ W, W = wd.alloc (.cells (row (zeros n1)) 5) := ⟨_, rfl⟩
          obtain ⟨gm, hgm⟩ : ∃ g, g = wd.heap.size := ⟨_, rfl⟩
          have hxe1 : Below wd.heap.size wd e1 := by rw [he1]; exact kb1 _ _
          have HMe1 : Hid (BS e1 (some ⟨gm, 0, none⟩) n1 n1 (zeros n1)) := Lib.hid (by rw [he1, hgm]; exact BS.of_blk (Blk.new _ _ _) (zeros_length _) (by unfold lim; omega))
          rw [← he1, ← hgm]
          clear he1 hgm
          have HKe1 := Lib.hid (HKd.out.kept hxe1)
          have HCe1 := Lib.hid (HCd.out.kept hxe1)
          have HBe1 := Lib.hid (below_then HBd.out hxe1)
          refine hK _ _ ⟨by rw [HKe1.out.cell]; rfl, by rw [HKe1.out.cell]; rfl⟩ ?_
          clear hK K hxe1
          refine Text.bfork ?_ ?_
          · refine Text.beff rfl rfl (fun K hK => ?_)
            go_simp
            refine (rshare_any (some ⟨gm, 0, none⟩) Ac n1 n1 nc cc (zeros n1) co X e1 HMe1.out HCe1.out HR1.out HNC.out HLL.out HX1.out.1 (by have := HX1.out.2; omega)).mono ?_
            rintro e e2 ⟨Az, cz, rfl, hb5, hxe2, _⟩
            rw [spK_length] at hb5 ⊢
            have HSe2 := Lib.hid hb5
            clear hb5
            have HKe2 := Lib.hid (HKe1.out.kept hxe2)
            have HCe2 := Lib.hid (HCe1.out.kept hxe2)
            have HBe2 := Lib.hid (below_then HBe1.out hxe2)
            refine hK _ _ ⟨by rw [HKe2.out.cell]; rfl, by rw [HKe2.out.cell]; rfl⟩ ?_
            clear hK K hxe2
            refine Text.beff rfl rfl (fun K hK => ?_)
            go_simp
            obtain ⟨e3, he3⟩ : ∃ W, W = e2.alloc (.cells #[.int .i64 0, .slice none 0 0] 33) := ⟨_, rfl⟩
            obtain ⟨gz, hgz⟩ : ∃ g, g = e2.heap.size := ⟨_, rfl⟩
            have hxe3 : Below e2.heap.size e2 e3 := by rw [he3]; exact kb1 _ _
            have HZe3 : Hid (Blk e3 gz 33 #[.int .i64 0, .slice none 0 0]) := Lib.hid (by rw [he3, hgz]; exact Blk.new _ _ _)
            have HGZ : Hid (W4.heap.size ≤ gz) := Lib.hid (by rw [hgz]; exact HBe2.out.size)
            rw [← he3, ← hgz]
            clear he3 hgz
            have HKe3 := Lib.hid (HKe2.out.kept hxe3)
            have HSe3 := Lib.hid (HSe2.out.kept hxe3)
            have HBe3 := Lib.hid (below_then HBe2.out hxe3)
            refine hK _ _ ⟨by rw [HKe3.out.cell]; rfl, by rw [HKe3.out.cell]; rfl⟩ ?_
            clear hK K hxe3
            have z0 : e3.cell? ⟨gz, 0, none⟩ = some (.int .i64 0) := by rw [HZe3.out.cell]; rfl
            have z1 : e3.cell? ⟨gz, 1, none⟩ = some (.slice none 0 0) := by rw [HZe3.out.cell]; rfl
            have z2 := HZe3.out.frozen 0
            have z3 := HZe3.out.frozen 1
            refine Text.blast rfl rfl (fun K hK => ?_)
            go_simp
            have hst : Blk ((e3.setCell ⟨gz, 0, none⟩ (.int .i64 X)).setCell ⟨gz, 1, none⟩ (.slice Az n1 cz)) gz 33 #[.int .i64 X, .slice Az n1 cz] := (HZe3.out.set_ 0 _).set_ 1 _
            have hbs : Below W4.heap.size W4 ((e3.setCell ⟨gz, 0, none⟩ (.int .i64 X)).setCell ⟨gz, 1, none⟩ (.slice Az n1 cz)) := (HBe3.out.setCell HGZ.out _).setCell HGZ.out _
            refine hK _ _ ?_
            clear hK K
            refine Text.bdone ?_
            go_wp2_with fail
            go_meet
            have hne := bs_ne HSe3.out HZe3.out
            exact ⟨gz, Az, cz, rfl, Lib.hid hst, Lib.hid ((HSe3.out.away' _ _ hne).away' _ _ hne), Lib.hid hbs⟩
          · refine Text.beff rfl rfl (fun K hK => ?_)
            go_simp
            obtain ⟨f2, hf2⟩ : ∃ W, W = e1.alloc (.cells #[.int .i64 0, .slice none 0 0] 33) := ⟨_, rfl⟩
            obtain ⟨gz, hgz⟩ : ∃ g, g = e1.heap.size := ⟨_, rfl⟩
            have hxf2 : Below e1.heap.size e1 f2 := by rw [hf2]; exact kb1 _ _
            have HZf2 : Hid (Blk f2 gz 33 #[.int .i64 0, .slice none 0 0]) := Lib.hid (by rw [hf2, hgz]; exact Blk.new _ _ _)
            have HGZ : Hid (W4.heap.size ≤ gz) := Lib.hid (by rw [hgz]; exact HBe1.out.size)
            rw [← hf2, ← hgz]
            clear hf2 hgz
            have HKf2 := Lib.hid (HKe1.out.kept hxf2)
            have HCf2 := Lib.hid (HCe1.out.kept hxf2)
            have HMf2 := Lib.hid (HMe1.out.kept hxf2)
            have HBf2 := Lib.hid (below_then HBe1.out hxf2)
            refine hK _ _ ⟨by rw [HKf2.out.cell]; rfl, by rw [HKf2.out.cell]; rfl⟩ ?_
            clear hK K hxf2
            refine Text.beff rfl rfl (fun K hK => ?_)
            go_simp
            refine (rshare_any (some ⟨gm, 0, none⟩) Ac n1 n1 nc cc (zeros n1) co X f2 HMf2.out HCf2.out HR1.out HNC.out HLL.out HX1.out.1 (by have := HX1.out.2; omega)).mono ?_
            rintro e f3 ⟨Az, cz, rfl, hb5, hxf3, _⟩
            rw [spK_length] at hb5 ⊢
            have HSf3 := Lib.hid hb5
            clear hb5
            have HKf3 := Lib.hid (HKf2.out.kept hxf3)
            have HZf3 := Lib.hid (HZf2.out.kept hxf3)
            have HBf3 := Lib.hid (below_then HBf2.out hxf3)
            refine hK _ _ ⟨by rw [HKf3.out.cell]; rfl, by rw [HKf3.out.cell]; rfl⟩ ?_
            clear hK K hxf3
            have z0 : f3.cell? ⟨gz, 0, none⟩ = some (.int .i64 0) := by rw [HZf3.out.cell]; rfl
            have z1 : f3.cell? ⟨gz, 1, none⟩ = some (.slice none 0 0) := by rw [HZf3.out.cell]; rfl
            have z2 := HZf3.out.frozen 0
            have z3 := HZf3.out.frozen 1
            refine Text.blast rfl rfl (fun K hK => ?_)
            go_simp
            have hst : Blk ((f3.setCell ⟨gz, 0, none⟩ (.int .i64 X)).setCell ⟨gz, 1, none⟩ (.slice Az n1 cz)) gz 33 #[.int .i64 X, .slice Az n1 cz] := (HZf3.out.set_ 0 _).set_ 1 _
            have hbs : Below W4.heap.size W4 ((f3.setCell ⟨gz, 0, none⟩ (.int .i64 X)).setCell ⟨gz, 1, none⟩ (.slice Az n1 cz)) := (HBf3.out.setCell HGZ.out _).setCell HGZ.out _
            refine hK _ _ ?_
            clear hK K
            refine Text.bdone ?_
            go_wp2_with fail
            go_meet
            have hne := bs_ne HSf3.out HZf3.out
            exact ⟨gz, Az, cz, rfl, Lib.hid hst, Lib.hid ((HSf3.out.away' _ _ hne).away' _ _ hne), Lib.hid hbs⟩
        · refine Text.beff rfl rfl (fun K hK => ?_)
          go_simp
          obtain ⟨h1, hh1⟩ : ∃ W, W = wd.alloc (.cells #[.int .i64 0, .slice none 0 0] 33) := ⟨_, rfl⟩
          obtain ⟨gz, hgz⟩ : ∃ g, g = wd.heap.size := ⟨_, rfl⟩
          have hxh1 : Below wd.heap.size wd h1 := by rw [hh1]; exact kb1 _ _
          have HZh1 : Hid (Blk h1 gz 33 #[.int .i64 0, .slice none 0 0]) := Lib.hid (by rw [hh1, hgz]; exact Blk.new _ _ _)
          have HGZ : Hid (W4.heap.size ≤ gz) := Lib.hid (by rw [hgz]; exact HBd.out.size)
          rw [← hh1, ← hgz]
          clear hh1 hgz
          have HKh1 := Lib.hid (HKd.out.kept hxh1)
          have HCh1 := Lib.hid (HCd.out.kept hxh1)
          have HBh1 := Lib.hid (below_then HBd.out hxh1)
          refine hK _ _ ⟨by rw [HKh1.out.cell]; rfl, by rw [HKh1.out.cell]; rfl⟩ ?_
          clear hK K hxh1
          refine Text.beff rfl rfl (fun K hK => ?_)
          go_simp
          obtain ⟨h2, hh2⟩ : ∃ W, W = h1.alloc (.cells (row (zeros n1)) 5) := ⟨_, rfl⟩
          obtain ⟨gm, hgm⟩ : ∃ g, g = h1.heap.size := ⟨_, rfl⟩
          have hxh2 : Below h1.heap.size h1 h2 := by rw [hh2]; exact kb1 _ _
          have HMh2 : Hid (BS h2 (some ⟨gm, 0, none⟩) n1 n1 (zeros n1)) := Lib.hid (by rw [hh2, hgm]; exact BS.of_blk (Blk.new _ _ _) (zeros_length _) (by unfold lim; omega))
          rw [← hh2, ← hgm]
          clear hh2 hgm
          have HKh2 := Lib.hid (HKh1.out.kept hxh2)
          have HCh2 := Lib.hid (HCh1.out.kept hxh2)
          have HZh2 := Lib.hid (HZh1.out.kept hxh2)
          have HBh2 := Lib.hid (below_then HBh1.out hxh2)
          refine hK _ _ ⟨by rw [HKh2.out.cell]; rfl, by rw [HKh2.out.cell]; rfl⟩ ?_
          clear hK K hxh2
          refine Text.beff rfl rfl (fun K hK => ?_)
          go_simp
          refine (rshare_any (some ⟨gm, 0, none⟩) Ac n1 n1 nc cc (zeros n1) co X h2 HMh2.out HCh2.out HR1.out HNC.out HLL.out HX1.out.1 (by have := HX1.out.2; omega)).mono ?_
          rintro e h3 ⟨Az, cz, rfl, hb5, hxh3, _⟩
          rw [spK_length] at hb5 ⊢
          have HSh3 := Lib.hid hb5
          clear hb5
          have HKh3 := Lib.hid (HKh2.out.kept hxh3)
          have HZh3 := Lib.hid (HZh2.out.kept hxh3)
          have HBh3 := Lib.hid (below_then HBh2.out hxh3)
          refine hK _ _ ⟨by rw [HKh3.out.cell]; rfl, by rw [HKh3.out.cell]; rfl⟩ ?_
          clear hK K hxh3
          have z0 : h3.cell? ⟨gz, 0, none⟩ = some (.int .i64 0) := by rw [HZh3.out.cell]; rfl
          have z1 : h3.cell? ⟨gz, 1, none⟩ = some (.slice none 0 0) := by rw [HZh3.out.cell]; rfl
          have z2 := HZh3.out.frozen 0
          have z3 := HZh3.out.frozen 1
          refine Text.blast rfl rfl (fun K hK => ?_)
          go_simp
          have hst : Blk ((h3.setCell ⟨gz, 0, none⟩ (.int .i64 X)).setCell ⟨gz, 1, none⟩ (.slice Az n1 cz)) gz 33 #[.int .i64 X, .slice Az n1 cz] := (HZh3.out.set_ 0 _).set_ 1 _
          have hbs : Below W4.heap.size W4 ((h3.setCell ⟨gz, 0, none⟩ (.int .i64 X)).setCell ⟨gz, 1, none⟩ (.slice Az n1 cz)) := (HBh3.out.setCell HGZ.out _).setCell HGZ.out _
          refine hK _ _ ?_
          clear hK K
          refine Text.bdone ?_
          go_wp2_with fail
          go_meet
          have hne := bs_ne HSh3.out HZh3.out
          exact ⟨gz, Az, cz, rfl, Lib.hid hst, Lib.hid ((HSh3.out.away' _ _ hne).away' _ _ hne), Lib.hid hbs⟩
      case rest =>
        obtain ⟨gz, Az, cz, rfl, hkz, hbz, hxz⟩ := hcut
        have HKs := Lib.hid (HK4.out.kept hxz.out)
        have HDs := Lib.hid (HD4.out.kept hxz.out)
        have HBc := Lib.hid (below_then hb.out (below_then HB4.out hxz.out))
        have HOc := Lib.hid (ho.out.kept (below_then HB4.out hxz.out))
        have HOB := Lib.hid ho.out.base
        have HSZ : Hid (wy.heap.size ≤ wc.heap.size) := Lib.hid (below_then HB4.out hxz.out).size
        have HZX : Hid (spK (zeros n1) co (UInt8.ofNat X.toNat) n1 = spK (zeros n1) co (gX l k) n1) := Lib.hid (by unfold gX; rw [HXE.out])
        have HBz : Hid (BS wc Az n1 cz (spK (zeros n1) co (gX l k) n1)) := Lib.hid (by rw [← HZX.out]; exact hbz.out)
        obtain ⟨W6, hW6⟩ : ∃ W, W = wc.alloc (.cells #[.int .i64 X, .slice none 0 0] 33) := ⟨_, rfl⟩
        have hb6 : Below wc.heap.size wc W6 := by rw [hW6]; exact kb1 _ _
        have HK6 : Hid (Blk W6 wc.heap.size 33 #[.int .i64 X, .slice none 0 0]) := Lib.hid (by rw [hW6]; exact Blk.new _ _ _)
        have HB6 := Lib.hid hb6
        have HW6 := Lib.hid hW6
        have r0 : wc.cell? ⟨wy.heap.size, 0, none⟩ = some (.int .i64 X) := by rw [HKs.out.cell]; rfl
        have r1 : (wc.alloc (.cells #[.int .i64 X, .slice none 0 0] 33)).cell? ⟨wy.heap.size, 1, none⟩ = some (.slice A1 n1 c1) := by rw [← hW6, (HKs.out.kept hb6).cell]; rfl
        clear hW6 hb6 hbz hxz ho hb p0 p1 q1 q2 hmk
        go_wp2_with fail
        rw [← HW6.out]
        clear r0 r1
        obtain ⟨gx, hgx⟩ : ∃ g, g = wc.heap.size := ⟨_, rfl⟩
        rw [← hgx] at HK6
        have HGX := Lib.hid hgx
        rw [← hgx]
        clear hgx
        go_loopw [31] (fun i wr => ∃ (j : Nat) (Ax : Option Addr) (cx : Nat), j ≤ n1 ∧ i = .int .i64 (j : Int) ∧ Hid (Blk wr gx 33 #[.int .i64 X, .slice Ax j cx]) ∧ Hid (wr.ownsRow wc.heap.size 5 1 (.slice Ax j cx) j ((rrD l co n1 k j).map B)) ∧ Hid (Below wc.heap.size wc wr)) (fun i _ => n1 - (intOf i).toNat)
        case atStart => exact ⟨0, none, 0, by omega, rfl, HK6, Lib.hid (World.ownsRow_nil _ _ _ _), HB6⟩
        case round =>
          clear HK6 HB6
          obtain ⟨j, Ax, cx, hj, rfl, hkx, hox, hbx⟩ := hrel
          by_cases hjn : j < n1
          · obtain ⟨ga, oa, rfl, ya⟩ := HDs.out.at_ hbx.out hjn
            obtain ⟨gb, ob, rfl, yb⟩ := HBz.out.at_ hbx.out hjn
            obtain ⟨y1, hy1⟩ : ∃ y, y = gB (gS l k).2 j := ⟨_, rfl⟩
            obtain ⟨y2, hy2⟩ : ∃ y, y = gB (spK (zeros n1) co (gX l k) n1) j := ⟨_, rfl⟩
            rw [← hy1] at ya
            rw [← hy2] at yb
            have HY1 : Hid (rrD l co n1 k (j + 1) = rrD l co n1 k j ++ [y1 ^^^ y2]) := Lib.hid (by rw [rrD_succ, hy1, hy2])
            have a1 : wr.cell? ⟨wy.heap.size, 1, none⟩ = some (.slice (some ⟨ga, oa, none⟩) n1 c1) := by rw [(HKs.out.kept hbx.out).cell]; rfl
            have a2 : wr.cell? ⟨gz, 1, none⟩ = some (.slice (some ⟨gb, ob, none⟩) n1 cz) := by rw [(hkz.out.kept hbx.out).cell]; rfl
            have q5 : wr.cell? ⟨gx, 1, none⟩ = some (.slice Ax j cx) := by rw [hkx.out.cell]; rfl
            unfold B at ya yb
            have hjb : (j : Int) < (n1 : Int) := by omega
            clear hy1 hy2
            go_wp2_with fail
            refine Text.wp_region_text (fun w' => w'.cell? ⟨gx, 1, none⟩ = some (.slice Ax j cx)) [(0, 4), (2, 4), (4, 4), (7, 4), (9, 4), (1, 0), (3, 1), (5, 4), (6, 1), (8, 1), (10, 4), (11, 1), (12, 4), (13, 2), (14, 3), (15, 4), (16, 3)] (by kernel_rfl) (by kernel_rfl) (fun _ _ _ _ _ h => h) (q5) ?_
            iterate 5 (refine Text.purek rfl rfl (fun K hK => ⟨_, fun w' => by go_simp <;> rfl, ?_⟩); go_simp; refine hK _ ?_; clear hK K)
            (refine Text.heldk rfl rfl (fun K hK => ⟨_, fun w' hw' => by go_simp <;> rfl, ?_⟩); go_simp; refine hK _ ?_; clear hK K)
            (refine Text.readk rfl rfl (fun K hK => ⟨_, by go_simp <;> rfl, ?_⟩); go_simp; refine hK _ ?_; clear hK K)
            (refine Text.purek rfl rfl (fun K hK => ⟨_, fun w' => by go_simp <;> rfl, ?_⟩); go_simp; refine hK _ ?_; clear hK K)
            iterate 2 (refine Text.readk rfl rfl (fun K hK => ⟨_, by go_simp <;> rfl, ?_⟩); go_simp; refine hK _ ?_; clear hK K)
            (refine Text.purek rfl rfl (fun K hK => ⟨_, fun w' => by go_simp <;> rfl, ?_⟩); go_simp; refine hK _ ?_; clear hK K)
            (refine Text.readk rfl rfl (fun K hK => ⟨_, by go_simp <;> rfl, ?_⟩); go_simp; refine hK _ ?_; clear hK K)
            (refine Text.purek rfl rfl (fun K hK => ⟨_, fun w' => by go_simp <;> rfl, ?_⟩); go_simp; refine hK _ ?_; clear hK K)
            refine Text.eff rfl rfl (fun K hK => ?_)
            go_simp
            obtain ⟨W7, hW7⟩ : ∃ W, W = (wr.alloc (.cells #[B (y1 ^^^ y2)] 5)).drew := ⟨_, rfl⟩
            have hb7 : Below wr.heap.size wr W7 := by rw [hW7]; exact (kb1 _ _).drew
            have HBK7 : Hid (BS W7 (some ⟨wr.heap.size, 0, none⟩) 1 1 [y1 ^^^ y2]) := Lib.hid (by rw [hW7]; exact bs1 (Blk.new wr _ _))
            have HO7 := Lib.hid (Kp.ownN hb7 hox.out)
            have HK7 := Lib.hid (hkx.out.kept hb7)
            have HB7 := Lib.hid (below_then hbx.out hb7)
            have q6 := cell_kept hb7 q5
            have HJ1 : Hid (j + 1 ≤ 140737488355328) := Lib.hid (by have := HLL.out; omega)
            have hWW : (wr.alloc (.cells #[.int .u8 (bv (y1 ^^^ y2))] 5)).drew = W7 := hW7.symm
            rw [hWW]
            refine hK _ _ q6 ?_
            clear hK K hb7 hW7 hWW
            refine Text.last rfl rfl (fun K hK => ?_)
            refine wp_appB W7 (.tmp 35) (.tmp 47) rfl wc.heap.size (.slice Ax j cx) j _ rfl HO7.out (some ⟨wr.heap.size, 0, none⟩) 1 1 [y1 ^^^ y2] rfl HBK7.out HJ1.out HB7.out.size ?_
            intro v8 w8 hp8
            obtain ⟨m8, g8, cap8, hm8, rfl⟩ := own_form (by omega) hp8.1
            subst hm8
            have hne := own_ne HO7.out HK7.out (by decide)
            have hK8 := grown_blk hp8.2.1 HK7.out hne
            have q7 : w8.cell? ⟨gx, 1, none⟩ = some (.slice Ax j cx) := by rw [hK8.cell]; rfl
            have q8 := hK8.frozen 1
            have HB8 : Hid (Below wc.heap.size wc w8) := Lib.hid (HB7.out.grown hp8.2.1 HB7.out.size (fun b hb' => own_base HO7.out b hb'))
            have hS9 : Kp (fun b => b = gx) w8 (w8.setCell ⟨gx, 1, none⟩ (.slice (some ⟨g8, 0, none⟩) (j + 1) cap8)) := (Kp.refl (fun b => b = gx) w8).set (p := ⟨gx, 1, none⟩) (.inl rfl) _
            have HO9 : Hid ((w8.setCell ⟨gx, 1, none⟩ (.slice (some ⟨g8, 0, none⟩) (j + 1) cap8)).ownsRow wc.heap.size 5 1 (.slice (some ⟨g8, 0, none⟩) (j + 1) cap8) (j + 1) ((rrD l co n1 k (j + 1)).map B)) := Lib.hid (by
              rw [HY1.out]
              exact hS9.own hp8.1 (fun g hg e => own_ne hp8.1 hK8 (by decide) (by rw [hg, e])))
            have HK9 : Hid (Blk (w8.setCell ⟨gx, 1, none⟩ (.slice (some ⟨g8, 0, none⟩) (j + 1) cap8)) gx 33 #[.int .i64 X, .slice (some ⟨g8, 0, none⟩) (j + 1) cap8]) := Lib.hid (hK8.set_ 1 _)
            have HB9 : Hid (Below wc.heap.size wc (w8.setCell ⟨gx, 1, none⟩ (.slice (some ⟨g8, 0, none⟩) (j + 1) cap8))) := Lib.hid (HB8.out.setCell (show wc.heap.size ≤ gx by rw [HGX.out]; exact Nat.le_refl _) _)
            refine hK _ _ ?_
            clear hK K hne hK8 hp8 hS9
            (refine Text.purek rfl rfl (fun K hK => ⟨_, fun w' => by go_simp <;> rfl, ?_⟩); go_simp; refine hK _ ?_; clear hK K)
            refine Text.last rfl rfl (fun K hK => ?_)
            go_simp
            refine hK _ _ ?_
            clear hK K
            refine Text.done ?_
            go_wp2_with fail
            go_roundw
            case rel => exact ⟨j + 1, _, cap8, by omega, by go_num, HK9, HO9, HB9⟩
            case measure => simp [intOf]; omega
          · obtain rfl : j = n1 := by omega
            have q6 : wr.cell? ⟨gx, 0, none⟩ = some (.int .i64 X) := by rw [hkx.out.cell]; rfl
            have q7 : wr.cell? ⟨gx, 1, none⟩ = some (.slice Ax j cx) := by rw [hkx.out.cell]; rfl
            obtain ⟨_, _, e1, b1⟩ := BS.of_own hox.out (by have := HLL.out; unfold lim; omega)
            cases e1
            have hb8 : Below wr.heap.size wr (wr.alloc (.cells #[.int .i64 X, .slice Ax j cx] 33)) := kb1 _ _
            have hall := below_then (below_then HBc.out hbx.out) hb8
            obtain ⟨hm7, q, hq, hown7, hps7⟩ := (HOc.out.kept hbx.out).kept hb8
            have HW7 := Lib.hid hown7
            have HPS7 := Lib.hid hps7
            have HM7 := Lib.hid hm7
            have HQ7 := Lib.hid hq
            have H61 := Lib.hid (b1.kept hb8)
            have HFAR : Hid (0 < j → AtB Ax (fun b => u5.ownBlock ≠ some b)) := Lib.hid (fun h0 a ea e' => by
              have h1 := own_base hox.out a.block (by rw [ea]; rfl)
              have h2 := (HOB.out a.block e').2
              have h3 := HSZ.out
              omega)
            have HB9 := Lib.hid hall
            have HK32 : Hid ((k + 1) * 32 ≤ 140737488355328) := Lib.hid (by have := H64.out; omega)
            clear hb8 hall hm7 hq hown7 hps7 b1
            go_wp2_with (first
              | (at_builtin; refine wpList_appS _ rfl (.tmp 51) (.tmp 53) rfl w.heap.size u5 k (shC q) rfl HW7.out wr.heap.size 1 33 (.int .i64 X) (.slice Ax j cx) rfl (Blk.new wr _ _) rfl rfl HK32.out HB9.out.size ?_; intro v9 w9 hp9))
            have HO9 : Hid (OwnS w9 w.heap.size v9 (k + 1) (rrK l co j (k + 1))) := Lib.hid (by
              rw [rrK, ← HXE.out]
              exact OwnS.push HM7.out HQ7.out HPS7.out H61.out HFAR.out hp9)
            have HBF : Hid (Below w.heap.size w w9) := Lib.hid (HB9.out.grown hp9.2.1 HB9.out.size (fun b hb' => (HOB.out b hb').1))
            clear hp9
            go_wp2_with fail
            go_roundw
            case rel => exact ⟨k + 1, by omega, by go_num, HO9, HBF⟩
            case measure => simp [intOf]; omega
    · obtain rfl : k = n := by omega
      go_wp2_with fail
      go_ret
      exact ⟨_, rfl, ho.out, hb.out⟩
end Go.Proofs.Ytakedococfklgaa
