/- Several texts in one: Ari, Sum, Join, Hm0, Cel2. -/
import Derived.Test.YtfcakjpljjnjnaaGreatDoorC2
import Derived.Test.YtfcakjpljjnjnaaGreatDoorC6
import Derived.Test.YtfcakjpljjnjnaaGreatDoorC5
/- Operations on unsigned 64-bit numbers that are casts of naturals, as laws at the operation. Proved for any program. -/
namespace Go.Proofs.YtfcakjpljjnjnaaGreatDoor
open Go Go.RowKit Gf

section
variable {P : Program} (w : World) {ops : Array Oper} {rest : List Oper} {o : Oper} {a : Act} {Q : Exit → Act → World → Prop}
/-- x >> s. -/
theorem wpList_shrN (hg : o.guard = none) (x y : Operand) (t t2 : TypeId) (hop : o.op = .binOp .shr t x y t2) (ky : IntKind) (X s : Nat) (zx zy : Int) (hx : a.eval x = .int .u64 zx) (hy : a.eval y = .int ky zy) (hX : zx = (X : Int)) (hs : zy = (s : Int)) (hs64 : s ≤ 64)
  (h : wpList P ops Q rest (a.put o.dst (.int .u64 ((X >>> s : Nat) : Int))) w) : wpList P ops Q (o :: rest) a w :=
 wpList_plain hg fun K hK => by
  subst hX hs
  have e : (((X >>> s : Nat) : Int)) = (X : Int) / 2 ^ s := by
   rw [Nat.shiftRight_eq_div_pow, Int.natCast_ediv, Int.natCast_pow]; rfl
  rw [e] at h
  unfold Oper.wp execOp
  simp only [hop, hx, hy, binOp, Sem.run_bind]
  simp [eqGuard, Result.andThen]
  exact hK _ _ h
/-- byte(x). -/
theorem wpList_u8N (hg : o.guard = none) (x : Operand) (t t2 : TypeId) (hop : o.op = .convert t t2 x) (d : TypeDesc) (k : IntKind) (ht : P.underlying t = some d) (ht2 : P.underlying t2 = some (.int .u8)) (X : Nat) (zx : Int) (hx : a.eval x = .int k zx) (hX : zx = (X : Int))
  (h : wpList P ops Q rest (a.put o.dst (B (UInt8.ofNat X))) w) : wpList P ops Q (o :: rest) a w :=
 wpList_plain hg fun K hK => by
  subst hX
  have e : IntKind.u8.wrap (X : Int) = bv (UInt8.ofNat X) := by
   show (X : Int) % 256 = _
   unfold bv
   rw [UInt8.toNat_ofNat', Int.natCast_emod]; rfl
  unfold Oper.wp execOp
  simp only [hop, hx]
  simp [convert, run_underlying ht, run_underlying ht2, Conv.intToInt, Result.andThen, e]
  exact hK _ _ h
end
end Go.Proofs.YtfcakjpljjnjnaaGreatDoor
/- Contracts of sha256.New and (*sha256.State).Sum. -/
namespace Go.Proofs.YtfcakjpljjnjnaaGreatDoor
open Go.RowKit Gf Sha

theorem build_ini (w : World) : (Instr.build 155 #[(0, .agg ini.cells.toArray)]).run Tryz.prog w = .ok (.agg (stv ini (List.replicate 64 0) 0 []).toArray) w := by kernel_rfl

set_option maxRecDepth 100000 in
set_option maxHeartbeats 1000000 in
theorem new_any (w : World) (hT : Tabs w) :
  Calls Tryz.prog 101 #[] w fun e w' => e = .returned (.pointer (some ⟨w.heap.size, 0, none⟩)) ∧ Hs w' w.heap.size 155 [] [] ∧ Below w.heap.size w w' := by
 have HT := Lib.hid hT
 clear hT
 go_enter Tryz.func101, Tryz.ntmps101
 go_wp2_with (first
  | ((with_reducible show OpW 1); refine wpList_loadv _ rfl 153 (.global 1) rfl 8 (by kernel_rfl) 1 0 ini.cells rfl HT.out.ini rfl ?_)
  | ((with_reducible show OpW 2); refine wpList_build _ rfl 155 _ rfl #[(0, .agg ini.cells.toArray)] rfl _ (build_ini _) ?_)
  | ((with_reducible show OpW 3); refine wpList_box _ rfl 155 (.tmp 2) rfl (stv ini (List.replicate 64 0) 0 []) rfl ?_; intro w2 b1 b2 b3))
 go_ret
 exact ⟨rfl, ⟨List.replicate 64 0, rfl, b1, rfl⟩, b2⟩

attribute [local go_sem] Sha.conv_b Sha.sh24 Sha.sh16 Sha.sh8
theorem stv_first (s : St) (buf : List UInt8) (n : Nat) (rest : List Value) : stv s buf n rest = stv s buf n [] ++ rest := by simp [stv]
theorem stv_first_length (s : St) (buf : List UInt8) (n : Nat) (h : buf.length = 64) : (stv s buf n []).length = 73 := by rw [stv_length _ _ _ _ h]; rfl
theorem stv_one (s : St) (buf : List UInt8) (n : Nat) : ∀ v ∈ stv s buf n [], v.oneCell' = true := by
 intro v hv
 simp only [stv, St.cells, List.mem_append, List.mem_map, List.mem_cons, List.not_mem_nil, or_false] at hv
 rcases hv with (rfl | rfl | rfl | rfl | rfl | rfl | rfl | rfl) | ⟨b, _, rfl⟩ | rfl <;> rfl
theorem zero_state : (Tryz.prog.info? 155).map (·.zero) = some (some (.agg (stv ⟨0, 0, 0, 0, 0, 0, 0, 0⟩ (List.replicate 64 0) 0 []).toArray)) := by kernel_rfl
theorem splice_all (l vs : List Value) (h : vs.length = l.length) : splice l 0 vs = vs := by simp [splice, h]

set_option maxRecDepth 100000 in
set_option maxHeartbeats 2000000 in
theorem sum_any (g : Nat) (t : TypeId) (l : List UInt8) (rest : List Value) (w : World) (hs0 : Hs w g t rest l) (hT : Tabs w) (hN : l.length ≤ 1125899906842624) :
  Calls Tryz.prog 103 #[.pointer (some ⟨g, 0, none⟩)] w fun e w' => e = .returned (.string (strB (sha l))) ∧ Below w.heap.size w w' := by
 have HT := Lib.hid hT
 have HH := Lib.hid hs0
 obtain ⟨buf, hb1, hb2, hb3⟩ := hs0
 have HB1 := Lib.hid hb1
 have HB3 := Lib.hid hb3
 have q1 := hb2.get (stv_len _ _ _ _ hb1)
 obtain ⟨n, hn⟩ : ∃ n, n = l.length := ⟨_, rfl⟩
 rw [← hn] at q1 hN hb2
 rw [stv_first] at hb2
 have HAT := Lib.hid (BL.all hb2).left
 have HBL := Lib.hid hb2
 have HN := Lib.hid hn
 clear hn hb1 hb2 hb3 hT
 go_enter Tryz.func103, Tryz.ntmps103
 go_wp2_with (first
  | ((with_reducible show OpW 12); refine wpList_loadv _ rfl 155 (.tmp 11) rfl 73 (by kernel_rfl) g 0 (stv (hs l) buf n []) rfl HAT.out (stv_first_length _ _ _ HB1.out) ?_)
  | ((with_reducible show OpW 3); refine wpList_alloc _ rfl 155 rfl (stv ⟨0, 0, 0, 0, 0, 0, 0, 0⟩ (List.replicate 64 0) 0 []) zero_state ?_; intro w2 b1 b2 b3; have HB2 := Lib.hid b2; have HZ2 := Lib.hid b3; clear b2 b3)
  | ((with_reducible show OpN); refine wpList_storev _ rfl 155 (.tmp 3) (.tmp 12) rfl 73 (by kernel_rfl) w.heap.size 0 _ _ (stv (hs l) buf n []) rfl rfl b1 (stv_first_length _ _ _ HB1.out) (stv_one _ _ _) (by decide) ?_; intro w3 c1 c2 c3; rw [splice_all _ _ (by rw [stv_first_length _ _ _ HB1.out]; rfl)] at c1; have HC1 := Lib.hid c1; have HC2 := Lib.hid c2; have HC3 := Lib.hid c3; clear b1 c1 c2 c3))
 have HO4 : Hid ((w3.alloc (.cells #[.int .u8 128] 5)).ownsRow w3.heap.size 5 1 (.slice (some ⟨w3.heap.size, 0, none⟩) 1 1) 1 ((padz 0).map B)) := Lib.hid (BL.own (BL.new w3 5 [B 128]) (Nat.le_refl _) rfl (by decide))
 have HB4 : Hid (Below w3.heap.size w3 (w3.alloc (.cells #[.int .u8 128] 5))) := Lib.hid ((Below.refl _ _).alloc (Nat.le_refl _) _)
 have hz := zr_lt n
 go_loopw [4] (fun v wr => ∃ (k m g4 c4 : Nat), k ≤ zr n ∧ m ≤ 64 ∧ v = .slice (some ⟨g4, 0, none⟩) m c4 ∧ Hid (m = k + 1) ∧ Hid (wr.ownsRow w3.heap.size 5 1 (.slice (some ⟨g4, 0, none⟩) m c4) m ((padz k).map B)) ∧ Hid (Below w3.heap.size w3 wr)) (fun v _ => 65 - lenV v)
 case atStart => exact ⟨0, 1, _, _, by omega, by omega, rfl, Lib.hid rfl, HO4, HB4⟩
 case round =>
  obtain ⟨k, m, g4, c4, hk, hm64, rfl, hm, ho, hbw⟩ := hrel
  have hq : wr.cell? ⟨g, 72, none⟩ = some (.int .i64 (n : Int)) := by
   have e1 := cell_kept HB2.out q1
   have e2 := HC2.out.cell e1 (by show ¬ g = w.heap.size; have := HBL.out.lt; omega)
   exact cell_kept hbw.out e2
  by_cases hlt : k < zr n
  ·
   have ht : (((n : Int) + (m : Int)) % 64 != 56) = true := by
    have := zr_spec n k hlt
    have e := hm.out
    simp only [bne_iff_ne, ne_eq]; omega
   have hm2 : m < 64 := by have := hm.out; omega
   have HBB := Lib.hid (hbw.out.alloc hbw.out.size (.cells #[.int .u8 0] 5))
   have HOO := Lib.hid (ho.out.kept (World.grownBy_alloc wr (.cells #[.int .u8 0] 5) none) (by simp [Value.ownBlock]))
   have HBK : Hid (Blk (wr.alloc (.cells #[.int .u8 0] 5)) wr.heap.size 5 #[B 0]) := Lib.hid (Blk.new wr 5 #[B 0])
   go_wp2_with ((with_reducible show OpW 25); refine wpList_app1 _ rfl (.tmp 23) (.tmp 24) 39 5 (.int .u8 0) 1 Tryz.underlying39 infoU8 rfl rfl w3.heap.size _ m _ rfl HOO.out wr.heap.size 1 5 (B 0) rfl HBK.out rfl (by omega) (by omega) HBB.out.size ?_; intro v6 w6 hp)
   obtain ⟨g6, c6, rfl⟩ := hp.form (by omega)
   have HO6 : Hid (w6.ownsRow w3.heap.size 5 1 (.slice (some ⟨g6, 0, none⟩) (m + 1) c6) (m + 1) ((padz (k + 1)).map B)) := Lib.hid (by have := hp.own; rw [← padz_succ, List.map_append]; exact this)
   have HB6 := Lib.hid (hp.below HOO.out HBB.out (Nat.le_refl _) HBB.out.size)
   clear hp ht hq
   go_wp2_with fail
   go_roundw
   case rel => exact ⟨k + 1, m + 1, _, _, by omega, by omega, rfl, Lib.hid (by rw [hm.out]), HO6, HB6⟩
   case measure => simp [lenV]; omega
  ·
   obtain rfl : k = zr n := by omega
   have ht : (((n : Int) + (m : Int)) % 64 != 56) = false := by
    have := zr_end n
    have e := hm.out
    simp only [bne_eq_false_iff_eq]; omega
   go_wp2_with fail
   clear ht hq
   have HO4 := Lib.hid ho.out
   have HBW := Lib.hid hbw.out
   have hb1 : m ≤ 64 := hm64
   have HOI : Hid (wr.ownsRow w3.heap.size 5 1 (.slice (some ⟨g4, 0, none⟩) m c4) m ((padc n 0).map B)) := Lib.hid (by rw [padc_zero]; exact ho.out)
   go_loopw [4, 6] (fun v sh wx => ∃ (i m g5 c5 : Nat) (z : Int), i ≤ 8 ∧ m ≤ 72 ∧ z + 8 * i ≤ 56 ∧ 56 ≤ z + 8 * i ∧ sh = .int .i64 z ∧ v = .slice (some ⟨g5, 0, none⟩) m c5 ∧ Hid (m = zr n + 1 + i) ∧ Hid (wx.ownsRow w3.heap.size 5 1 (.slice (some ⟨g5, 0, none⟩) m c5) m ((padc n i).map B)) ∧ Hid (Below w3.heap.size w3 wx)) (fun _ sh _ => (intOf sh + 8).toNat)
   case atStart => exact ⟨0, m, _, _, 56, by omega, by omega, by omega, by omega, rfl, rfl, hm, HOI, HBW⟩
   case round =>
    obtain ⟨i, m, g5, c5, z, hi, hm72, hz1, hz2, rfl, rfl, hmi, ho5, hb5⟩ := hrel
    by_cases hlt : i < 8
    ·
     have hz0 : 0 ≤ z := by omega
     have hm2 : m < 72 := by have := hmi.out; omega
     obtain ⟨wx, hwx⟩ : ∃ x, x = wr := ⟨_, rfl⟩
     rw [← hwx] at ho5 hb5 ⊢
     clear hwx
     have HBB := Lib.hid (hb5.out.alloc hb5.out.size (.cells #[B (cb n i)] 5))
     have HOO := Lib.hid (ho5.out.kept (World.grownBy_alloc wx (.cells #[B (cb n i)] 5) none) (by simp [Value.ownBlock]))
     have HBK : Hid (Blk (wx.alloc (.cells #[B (cb n i)] 5)) wx.heap.size 5 #[B (cb n i)]) := Lib.hid (Blk.new wx 5 #[B (cb n i)])
     go_wp2_with (first
      | ((with_reducible show OpW 39); refine wpList_shrN _ rfl (.tmp 37) (.tmp 38) _ _ rfl .i64 (n * 8) (56 - 8 * i) _ z rfl rfl (by omega) (by omega) (by omega) ?_)
      | ((with_reducible show OpW 40); refine wpList_u8N _ rfl (.tmp 39) 86 5 rfl _ .u64 Tryz.underlying86 Tryz.underlying5 _ _ rfl rfl ?_; rw [show UInt8.ofNat ((n * 8) >>> (56 - 8 * i)) = cb n i from rfl])
      | ((with_reducible show OpW 42); refine wpList_app1 _ rfl (.tmp 36) (.tmp 41) 39 5 (.int .u8 0) 1 Tryz.underlying39 infoU8 rfl rfl w3.heap.size _ m _ rfl HOO.out wx.heap.size 1 5 (B (cb n i)) rfl HBK.out rfl (by omega) (by omega) HBB.out.size ?_; intro v6 w6 hp))
     obtain ⟨g6, c6, rfl⟩ := hp.form (by omega)
     have HO6 : Hid (w6.ownsRow w3.heap.size 5 1 (.slice (some ⟨g6, 0, none⟩) (m + 1) c6) (m + 1) ((padc n (i + 1)).map B)) := Lib.hid (by have := hp.own; rw [← padc_succ, List.map_append]; exact this)
     have HB6 := Lib.hid (hp.below HOO.out HBB.out (Nat.le_refl _) HBB.out.size)
     clear hp
     go_wp2_with fail
     go_roundw
     case rel => exact ⟨i + 1, m + 1, _, _, z - 8, by omega, by omega, by omega, by omega, by go_num, rfl, Lib.hid (by rw [hmi.out]; omega), HO6, HB6⟩
     case measure => simp [intOf]; omega
    ·
     obtain rfl : i = 8 := by omega
     have hz0 : z < 0 := by omega
     obtain ⟨wx, hwx⟩ : ∃ x, x = wr := ⟨_, rfl⟩
     rw [← hwx] at ho5 hb5 ⊢
     clear hwx
     have HHs : Hid (Hs wx w.heap.size 155 [] l) := Lib.hid (by
      refine ⟨buf, HB1.out, ?_, HB3.out⟩
      rw [← HN.out]
      exact HC1.out.kept hb5.out)
     have HTx : Hid (Tabs wx) := Lib.hid (((HT.out.kept HB2.out).kp HC2.out (by rintro k rfl; exact HT.out.size)).kept hb5.out)
     have HZ3 : Hid (w3.heap.size = w.heap.size + 1) := Lib.hid (by rw [HC3.out, HZ2.out])
     obtain ⟨Ap, cp, ep, hbs⟩ := BS.of_own ho5.out (by have := hm72; unfold lim; omega)
     cases ep
     have HBS := Lib.hid hbs
     have HFA : Hid (FarB (some ⟨g5, 0, none⟩) m (· = w.heap.size)) := Lib.hid (fun g' o' _ e e2 => by
      cases e
      have e2 : g5 = w.heap.size := e2
      have := own_base ho5.out g5 rfl
      have := HZ3.out
      omega)
     have HLm : Hid (l.length + m ≤ 1152921504606846976) := Lib.hid (by rw [← HN.out]; omega)
     have HTW : Hid (2 < w.heap.size) := Lib.hid HT.out.size
     have HE : Hid (sha l = (hs (l ++ padc n 8)).bytes) := Lib.hid (by rw [sha, ← HN.out, padding_padc])
     obtain ⟨T, hT⟩ : ∃ T, T = l ++ padc n 8 := ⟨_, rfl⟩
     rw [← hT] at HE
     have HTT := Lib.hid hT
     clear hbs hT
     go_wp2_with (first
      | (go_at_call 102; refine (write_any w.heap.size m c5 _ 155 l (padc n 8) [] wx HHs.out HBS.out HTx.out HTW.out HFA.out HLm.out).mono ?_; rintro e w7 ⟨rfl, r1, r2⟩; rw [← HTT.out] at r1; obtain ⟨bf, s1, s2, s3⟩ := r1; have HS1 := Lib.hid s1; have HS2 := Lib.hid s2; have HR2 := Lib.hid r2; have HS4 := Lib.hid (BL.all s2).left; clear r2 s1 s2 s3)
      | ((with_reducible show OpW 45); refine wpList_mk _ rfl 39 5 _ _ rfl (.int .u8 0) 1 Tryz.underlying39 infoU8 rfl 0 32 0 32 rfl rfl rfl rfl (by decide) (by decide) (by decide) ?_; intro w8 t1 t2 t3; have HM8 := Lib.hid t1; have HB8 := Lib.hid t2; have HZ8 := Lib.hid t3; clear t1 t2 t3)
      | ((with_reducible show OpW 47); refine wpList_loadv _ rfl 153 (.tmp 46) rfl 8 (by kernel_rfl) w.heap.size 0 (hs T).cells rfl ((HS4.out.left).kept HB8.out) rfl ?_))
     have HO8 : Hid (w8.ownsRow w7.heap.size 5 1 (.slice (some ⟨w7.heap.size, 0, none⟩) 0 32) 0 ((outb (hs T) 0).map B)) := Lib.hid (BL.own0 HM8.out (Nat.le_refl _) rfl (by decide))
     have HB8' : Hid (Below w7.heap.size w8 w8) := Lib.hid (Below.refl _ _)
     go_loopw [7, 48] (fun v iv wy => ∃ (k m g9 c9 : Nat), k ≤ 8 ∧ m ≤ 32 ∧ iv = .int .i64 (k : Int) ∧ v = .slice (some ⟨g9, 0, none⟩) m c9 ∧ Hid (m = 4 * k) ∧ Hid (wy.ownsRow w7.heap.size 5 1 (.slice (some ⟨g9, 0, none⟩) m c9) m ((outb (hs T) k).map B)) ∧ Hid (Below w7.heap.size w8 wy)) (fun _ iv _ => 8 - (intOf iv).toNat)
     case atStart => exact ⟨0, 0, _, _, by omega, by omega, rfl, rfl, Lib.hid rfl, HO8, HB8'⟩
     case round =>
      obtain ⟨k, m, g9, c9, hk8, hm32, rfl, rfl, hmk, ho9, hb9⟩ := hrel
      obtain ⟨wy, hwy⟩ : ∃ x, x = wr := ⟨_, rfl⟩
      rw [← hwy] at ho9 hb9 ⊢
      clear hwy
      have HSZ : Hid (w7.heap.size ≤ wy.heap.size) := Lib.hid (by have := hb9.out.size; have := HZ8.out; omega)
      by_cases hlt : k < 8
      ·
       have c1 := run_index (P := Tryz.prog) wy Tryz.underlying153 (by kernel_rfl) (by kernel_rfl) hlt (by rw [List.getElem?_toArray]; exact cells_sw (hs T) k hlt)
       obtain ⟨x, hx⟩ : ∃ x, x = sw (hs T) k := ⟨_, rfl⟩
       rw [← hx] at c1
       have HXX := Lib.hid hx
       clear hx
       have hm28 : m ≤ 28 := by have := hmk.out; omega
       have HOO := Lib.hid (ho9.out.kept (World.grownBy_alloc wy (.cells #[B (x >>> 24).toUInt8, B (x >>> 16).toUInt8, B (x >>> 8).toUInt8, B x.toUInt8] 5) none) (by simp [Value.ownBlock]))
       have HBB := Lib.hid (hb9.out.alloc HSZ.out (.cells #[B (x >>> 24).toUInt8, B (x >>> 16).toUInt8, B (x >>> 8).toUInt8, B x.toUInt8] 5))
       have HBK : Hid (BS (wy.alloc (.cells #[B (x >>> 24).toUInt8, B (x >>> 16).toUInt8, B (x >>> 8).toUInt8, B x.toUInt8] 5)) (some ⟨wy.heap.size, 0, none⟩) 4 4 (bytes4 x)) := Lib.hid (BL.bs (l := bytes4 x) (BL.new wy 5 ((bytes4 x).map B)) rfl (by decide))
       have HSB : Hid (w7.heap.size ≤ (wy.alloc (.cells #[B (x >>> 24).toUInt8, B (x >>> 16).toUInt8, B (x >>> 8).toUInt8, B x.toUInt8] 5)).heap.size) := Lib.hid (by have := HSZ.out; simp; omega)
       go_wp2_with ((with_reducible show OpW 64); refine wpList_appB _ rfl (.tmp 51) (.tmp 63) rfl w7.heap.size _ m _ rfl HOO.out _ 4 4 (bytes4 x) rfl HBK.out (by omega) HSB.out ?_; intro v6 w6 hp)
       obtain ⟨g6, c6, rfl⟩ := hp.form (by omega)
       have HO6 : Hid (w6.ownsRow w7.heap.size 5 1 (.slice (some ⟨g6, 0, none⟩) (m + 4) c6) (m + 4) ((outb (hs T) (k + 1)).map B)) := Lib.hid (by have := hp.own; rw [outb, ← HXX.out]; exact this)
       have HB6 := Lib.hid (hp.below HOO.out HBB.out (Nat.le_refl _) HSB.out)
       clear hp c1
       go_wp2_with fail
       go_roundw
       case rel => exact ⟨k + 1, m + 4, _, _, by omega, by omega, by go_num, rfl, Lib.hid (by rw [hmk.out]; omega), HO6, HB6⟩
       case measure => simp [intOf]; omega
      ·
       obtain rfl : k = 8 := by omega
       obtain ⟨A8, c8, e8, hb8⟩ := BS.of_own ho9.out (by have := hm32; unfold lim; omega)
       cases e8
       have cv := conv_str hb8
       go_wp2_with fail
       go_ret
       refine ⟨?_, ?_⟩
       ·
        rw [HE.out, ← outb_all]; rfl
       ·
        have k1 : Kp (fun _ => False) w w2 := Kp.of_below HB2.out
        have k3 : Below w.heap.size w w3 := (k1.after HC2.out (fun i hi e => by omega)).below (Nat.le_refl _) (fun _ h => h.elim)
        have k4 : Below w.heap.size w wx := below_thenB k3 (by have := HZ3.out; omega) hb5.out
        have k5 : Below w.heap.size w w7 := ((Kp.of_below (S := fun _ => False) k4).after HR2.out (fun i hi e => by omega)).below (Nat.le_refl _) (fun _ h => h.elim)
        have k6 : w.heap.size ≤ w7.heap.size := k5.size
        exact (k5.trans (HB8.out.mono k6)).trans (hb9.out.mono k6)
end Go.Proofs.YtfcakjpljjnjnaaGreatDoor
/- Contracts of sha256.Join and sha256.Sum. -/
namespace Go.Proofs.YtfcakjpljjnjnaaGreatDoor
open Go.RowKit Gf Sha

/-- Strings. -/
def TS (w : World) (A : Option Addr) (n c : Nat) (m : List (List UInt8)) : Prop :=
 m.length = n ∧ n ≤ c ∧ n * 16 ≤ lim ∧ Cells w A n (fun k => .string (strB (gR m k)))
theorem TS.kept {w w' : World} {A : Option Addr} {n c : Nat} {m : List (List UInt8)} (h : TS w A n c m) (hb : Below w.heap.size w w') : TS w' A n c m := ⟨h.1, h.2.1, h.2.2.1, h.2.2.2.kept hb⟩
theorem TS.drew {w : World} {A : Option Addr} {n c : Nat} {m : List (List UInt8)} (h : TS w A n c m) : TS w.drew A n c m := h
theorem TS.at_ {w w' : World} {A : Option Addr} {n c : Nat} {m : List (List UInt8)} (h : TS w A n c m) (hb : Below w.heap.size w w') {k : Nat} (hk : k < n) : ∃ g o, A = some ⟨g, o, none⟩ ∧ w'.cell? ⟨g, o + k, none⟩ = some (.string (strB (gR m k))) := (h.kept hb).2.2.2 k hk
theorem TS.nil {w : World} : TS w none 0 0 [] := ⟨rfl, Nat.le_refl _, by decide, fun k hk => absurd hk (by omega)⟩
theorem TS.of_blk {w : World} {g : Nat} {t : TypeId} {m : List (List UInt8)} (h : BL w g t (m.map fun l => .string (strB l))) {n : Nat} (hn : m.length = n) (hl : n * 16 ≤ lim) : TS w (some ⟨g, 0, none⟩) n n m :=
 ⟨hn, Nat.le_refl _, hl, fun k hk => ⟨g, 0, rfl, by
  rw [Nat.zero_add]
  refine h.get ?_
  rw [List.getElem?_map, List.getElem?_eq_getElem (by omega)]
  show some (Value.string _) = some (.string (strB (gR m k)))
  rw [gR_eq (by omega)]⟩⟩
theorem flat_take {m : List (List UInt8)} {k : Nat} (h : k < m.length) : (m.take (k + 1)).flatten = (m.take k).flatten ++ gR m k := by
 rw [List.take_succ_eq_append_getElem h, List.flatten_append, gR_eq h]; simp
theorem flat_le (m : List (List UInt8)) (k : Nat) : (m.take k).flatten.length ≤ m.flatten.length := by
 conv => rhs; rw [← List.take_append_drop k m]
 rw [List.flatten_append, List.length_append]; omega

set_option maxRecDepth 100000 in
set_option maxHeartbeats 1000000 in
theorem join_any (A : Option Addr) (n c : Nat) (m : List (List UInt8)) (w : World) (h : TS w A n c m) (hT : Tabs w) (hN : m.flatten.length ≤ 1125899906842624) (hL : ∀ k, k < n → (gR m k).length ≤ lim) :
  Calls Tryz.prog 99 #[.slice A n c] w fun e w' => e = .returned (.string (strB (sha m.flatten))) ∧ Below w.heap.size w w' := by
 have hn : n * 16 ≤ 140737488355328 := by have := h.2.2.1; unfold lim at this; omega
 have H := Lib.hid h
 have HT := Lib.hid hT
 have HN := Lib.hid hN
 have HL := Lib.hid hL
 have HS := Lib.hid hT.size
 clear h hT hN hL
 go_enter Tryz.func99, Tryz.ntmps99
 go_wp2_with (go_at_call 101; refine (new_any w HT.out).mono ?_; rintro e w1 ⟨rfl, b1, b2⟩; have HB1 := Lib.hid b1; have HB2 := Lib.hid b2; clear b1 b2)
 go_loopw [9] (fun i wr => ∃ k : Nat, k ≤ n ∧ i = .int .i64 (k : Int) ∧ Hid (Hs wr w.heap.size 155 [] (m.take k).flatten) ∧ Hid (Below w.heap.size w wr)) (fun i _ => n - (intOf i).toNat)
 case atStart => exact ⟨0, by omega, rfl, HB1, HB2⟩
 case round =>
  obtain ⟨k, hk, rfl, hh, hb⟩ := hrel
  by_cases hlt : k < n
  ·
   obtain ⟨g, o, rfl, q1⟩ := H.out.at_ hb.out hlt
   obtain ⟨wx, hwx⟩ : ∃ x, x = wr := ⟨_, rfl⟩
   rw [← hwx] at hh hb q1 ⊢
   clear hwx
   have HLk : Hid ((gR m k).length ≤ lim) := Lib.hid (HL.out k hlt)
   have HLN : Hid ((m.take k).flatten.length + (gR m k).length ≤ 1152921504606846976) := Lib.hid (by
    have h1 := flat_le m (k + 1)
    rw [flat_take (by rw [H.out.1]; exact hlt), List.length_append] at h1
    have := HN.out
    omega)
   have HTk : Hid ((m.take (k + 1)).flatten = (m.take k).flatten ++ gR m k) := Lib.hid (flat_take (by rw [H.out.1]; exact hlt))
   go_wp2_with (first
    | ((with_reducible show OpW 15); refine wpList_convB _ rfl (.tmp 14) rfl (gR m k) rfl ?_; intro w2 cap hc; have HC := Lib.hid hc; clear hc)
    | (go_at_call 102; refine (write_any w.heap.size _ cap _ 155 (m.take k).flatten (gR m k) [] w2 (hh.out.kept HC.out.2.2.1) (HC.out.bs HLk.out) ((HT.out.kept hb.out).kept HC.out.2.2.1) HS.out (fun g' o' _ e e2 => by cases e; have := hh.out.lt; have e2 : wx.heap.size = w.heap.size := e2; omega) HLN.out).mono ?_; rintro e w3 ⟨rfl, r1, r2⟩; rw [← HTk.out] at r1; have HR1 := Lib.hid r1; have HR2 := Lib.hid r2; clear r1 r2))
   have HBE : Hid (Below w.heap.size w w3) := Lib.hid (((Kp.of_below (S := fun _ => False) (below_thenB hb.out hb.out.size HC.out.2.2.1)).after HR2.out (fun i hi e => by omega)).below (Nat.le_refl _) (fun _ h => h.elim))
   go_wp2_with fail
   go_roundw
   case rel => exact ⟨k + 1, by omega, by go_num, HR1, HBE⟩
   case measure => simp [intOf]; omega
  ·
   obtain rfl : k = n := by omega
   have hh2 := hh.out
   rw [List.take_of_length_le (by rw [H.out.1]; exact Nat.le_refl _)] at hh2
   have HH2 := Lib.hid hh2
   clear hh2
   go_wp2_with (go_at_call 103; refine (sum_any w.heap.size 155 m.flatten [] wr HH2.out (HT.out.kept hb.out) HN.out).mono ?_; rintro e w3 ⟨rfl, r1⟩)
   go_ret
   exact ⟨rfl, below_thenB hb.out hb.out.size r1⟩

end Go.Proofs.YtfcakjpljjnjnaaGreatDoor
/- Contract of the closure in hmac.New: a block of 64 bytes combined with a byte. -/
namespace Go.Proofs.YtfcakjpljjnjnaaGreatDoor
open Go.RowKit Gf Sha

/-- Bytes combined with a byte. -/
def xr (x : UInt8) (f : List UInt8) : List UInt8 := f.map fun b => b ^^^ x
theorem xr_length (x : UInt8) (f : List UInt8) : (xr x f).length = f.length := by simp [xr]
/-- The first k combined, the others 0. -/
def xpart (x : UInt8) (f : List UInt8) (k : Nat) : List UInt8 := xr x (f.take k) ++ List.replicate (f.length - k) 0
theorem xpart_zero (x : UInt8) (f : List UInt8) : xpart x f 0 = List.replicate f.length 0 := by simp [xpart, xr]
theorem xpart_all (x : UInt8) (f : List UInt8) : xpart x f f.length = xr x f := by simp [xpart]
theorem xpart_set (x : UInt8) (f : List UInt8) (k : Nat) (h : k < f.length) : (xpart x f k).set k (gB f k ^^^ x) = xpart x f (k + 1) := by
 have e : f.length - k = (f.length - (k + 1)) + 1 := by omega
 have hl : (xr x (f.take k)).length = k := by simp [xr]; omega
 unfold xpart
 rw [List.set_append, if_neg (by omega), hl, Nat.sub_self, e, List.replicate_succ, List.set_cons_zero, List.take_succ_eq_append_getElem h, xr, xr, List.map_append, List.append_assoc, gB_eq h]
 rfl
theorem map_set_B (l : List UInt8) (k : Nat) (b : UInt8) : (l.map B).set k (B b) = (l.set k b).map B := by rw [List.map_set]
theorem map_get_B (l : List UInt8) (k : Nat) (h : k < l.length) : (l.map B)[k]? = some (B (gB l k)) := by
 rw [List.getElem?_map, List.getElem?_eq_getElem h, gB_eq h]; rfl
theorem oneB (l : List UInt8) : ∀ v ∈ l.map B, v.oneCell' = true := by
 intro v hv
 obtain ⟨b, _, rfl⟩ := List.mem_map.1 hv
 rfl
theorem zero_arr : (Tryz.prog.info? 150).map (·.zero) = some (some (.agg ((List.replicate 64 (0 : UInt8)).map B).toArray)) := by kernel_rfl
attribute [local go_sem] Gf.xor_bits

set_option maxRecDepth 100000 in
set_option maxHeartbeats 1000000 in
theorem comb_any (x : UInt8) (gf : Nat) (t : TypeId) (f : List UInt8) (w : World) (h : BL w gf t (f.map B)) (hf : f.length = 64) :
  Calls Tryz.prog 100 #[B x, .pointer (some ⟨gf, 0, none⟩)] w fun e w' => e = .returned (.agg ((xr x f).map B).toArray) ∧ Below w.heap.size w w' := by
 have H := Lib.hid h
 have HF := Lib.hid hf
 clear h hf
 go_enter Tryz.func100, Tryz.ntmps100
 go_wp2_with (first
  | ((with_reducible show OpW 3); refine wpList_alloc _ rfl 150 rfl _ zero_arr ?_; intro w2 b1 b2 b3; have HB1 := Lib.hid b1; have HB2 := Lib.hid b2; clear b1 b2 b3)
  | ((with_reducible show OpW 6); refine wpList_loadv _ rfl 150 (.tmp 1) rfl 64 (by kernel_rfl) gf 0 (f.map B) rfl (BL.all (H.out.kept HB2.out)) (by rw [List.length_map]; exact HF.out) ?_))
 have HX0 : Hid (BL w2 w.heap.size 150 ((xpart x f 0).map B)) := Lib.hid (by rw [xpart_zero, HF.out]; exact HB1.out)
 go_loopw [7] (fun i wr => ∃ k : Nat, k ≤ 64 ∧ i = .int .i64 (k : Int) ∧ Hid (BL wr w.heap.size 150 ((xpart x f k).map B)) ∧ Hid (Below w.heap.size w wr)) (fun i _ => 64 - (intOf i).toNat)
 case atStart => exact ⟨0, by omega, rfl, HX0, HB2⟩
 case round =>
  obtain ⟨k, hk, rfl, hb, hw⟩ := hrel
  obtain ⟨wx, hwx⟩ : ∃ x, x = wr := ⟨_, rfl⟩
  rw [← hwx] at hb hw ⊢
  clear hwx
  by_cases hlt : k < 64
  ·
   have hlf : k < f.length := by rw [HF.out]; exact hlt
   have c1 := run_index (P := Tryz.prog) wx Tryz.underlying150 (by kernel_rfl) (by kernel_rfl) hlt (by rw [List.getElem?_toArray]; exact map_get_B f k hlf)
   have HLF := Lib.hid hlf
   have c2 := hb.out.frozen k
   have c3 : wx.cell? ⟨w.heap.size, k, none⟩ = some (B (gB (xpart x f k) k)) := hb.out.get (map_get_B _ k (by simp [xpart, xr]; omega))
   have HB3 : Hid (BL (wx.setCell ⟨w.heap.size, k, none⟩ (B (gB f k ^^^ x))) w.heap.size 150 ((xpart x f (k + 1)).map B)) := Lib.hid (by
    have := hb.out.set_ k (B (gB f k ^^^ x))
    rw [map_set_B, xpart_set x f k HLF.out] at this
    exact this)
   have HW3 : Hid (Below w.heap.size w (wx.setCell ⟨w.heap.size, k, none⟩ (B (gB f k ^^^ x)))) := Lib.hid (hw.out.setCell (Nat.le_refl _) _)
   clear hlf
   go_wp2_with fail
   clear c1 c2 c3
   generalize wx.setCell ⟨w.heap.size, k, none⟩ (B (gB f k ^^^ x)) = w8 at HB3 HW3 ⊢
   go_wp2_with fail
   go_roundw
   case rel => exact ⟨k + 1, by omega, by go_num, HB3, HW3⟩
   case measure => simp [intOf]; omega
  ·
   obtain rfl : k = 64 := by omega
   have hb2 := hb.out
   rw [← HF.out, xpart_all] at hb2
   have HB4 := Lib.hid hb2
   have HLX : Hid (((xr x f).map B).length = 64) := Lib.hid (by rw [List.length_map, xr_length]; exact HF.out)
   clear hb2
   go_wp2_with (first
    | ((with_reducible show OpW 17); refine wpList_loadv _ rfl 150 (.tmp 3) rfl 64 (by kernel_rfl) w.heap.size 0 ((xr x f).map B) rfl (BL.all HB4.out) HLX.out ?_)
    | ((with_reducible show OpN); refine wpList_storev _ rfl 150 (.tmp 3) (.tmp 17) rfl 64 (by kernel_rfl) w.heap.size 0 _ _ ((xr x f).map B) rfl rfl HB4.out HLX.out (oneB _) (by rw [HLX.out]; decide) ?_; intro w9 d1 d2 d3; rw [splice_all _ _ rfl] at d1))
   refine bodyPost_ret (results_at w9 Tryz.results100 (n := 64) (by kernel_rfl) (g := w.heap.size) (o := 0) rfl (BL.all d1) HLX.out) rfl ⟨rfl, ?_⟩
   exact ((Kp.of_below (S := fun _ => False) hw.out).after d2 (fun i hi e => by omega)).below (Nat.le_refl _) (fun _ h => h.elim)
end Go.Proofs.YtfcakjpljjnjnaaGreatDoor
/- copy from a string; struct values built of parts of many cells. -/
namespace Go.Proofs.YtfcakjpljjnjnaaGreatDoor
open Go Go.RowKit Gf

section
variable {P : Program} (w : World)
/-- copy(dst, s), s a string. -/
theorem run_copyS {ty te rt : TypeId} {t2 : TypeId} (hu : P.underlying ty = some (.slice te)) (hsz : (match P.info? te with | some i => i.size == 1 | none => false) = true)
  {g o m mc : Nat} {tb : TypeId} {l : List Value} (hb : BL w g tb l) {x : List UInt8} (ho : o + m ≤ l.length) :
  ∃ w', (Builtin.copy_ #[ty, t2] rt #[.slice (some ⟨g, o, none⟩) m mc, .string (strB x)]).run P w = .ok (.int .i64 ((min x.length m : Nat) : Int)) w' ∧ BL w' g tb (splice l o ((x.take (min x.length m)).map B)) ∧ Kp (· = g) w w' ∧ w'.heap.size = w.heap.size := by
 have h2 : (sizeOf te).run P w = .ok 1 w := by
  cases hi : P.info? te with
  | none => simp [hi] at hsz
  | some i => simp [hi] at hsz; simp [sizeOf, typeInfo, hi, hsz]
 have hxl : ((x.take (min x.length m)).map B).length = min x.length m := by simp
 have h1 : ∀ v ∈ (x.take (min x.length m)).map B, v.oneCell' = true := by
  intro v hv
  obtain ⟨b, _, rfl⟩ := List.mem_map.1 hv
  rfl
 obtain ⟨w', hr, hb', hk, hz⟩ := run_storeCells (P := P) ((x.take (min x.length m)).map B) h1 o (min x.length m) 0 l w (by omega) hb (by omega)
 refine ⟨w', ?_, hb', hk, hz⟩
 have hf : (Builtin.firstCells 1 (min x.length m) (.string (strB x))).run P w = .ok ((x.take (min x.length m)).map B).toArray w := by
  have e : ((strB x).extract 0 (min x.length m)).data.map (fun b => Value.int .u8 (b.toNat : Int)) = ((x.take (min x.length m)).map B).toArray := by
   have e2 : ((strB x).extract 0 (min x.length m)).data = (x.take (min x.length m)).toArray := by
    rw [ByteArray.data_extract]
    simp [strB]
   rw [e2]
   simp
   rfl
  simp only [Builtin.firstCells, e]
  rfl
 rw [List.drop_zero] at hr
 have e1 : Nat.min x.length m = min x.length m := rfl
 have e3 : (strB x).size = x.length := rfl
 generalize (x.take (min x.length m)).map B = ys at hf hr
 simp [Builtin.copy_, run_underlying hu, Builtin.lenOf, e1, e3, h2, hf, hr, goInt, Result.andThen]

theorem wpList_copyS {ops : Array Oper} {rest : List Oper} {o : Oper} {a : Act} {Q : Exit → Act → World → Prop} (hg : o.guard = none) (s x : Operand) (ty t2 te : TypeId) (hop : o.op = .call { callee := .builtin .copy, args := #[s, x], argTypes := #[ty, t2] })
  (hu : P.underlying ty = some (.slice te)) (hsz : (match P.info? te with | some i => i.size == 1 | none => false) = true)
  (g p m mc : Nat) (tb : TypeId) (l : List Value) (hs : a.eval s = .slice (some ⟨g, p, none⟩) m mc) (hb : BL w g tb l) (xs : List UInt8) (hx : a.eval x = .string (strB xs)) (ho : p + m ≤ l.length)
  (h : ∀ w', BL w' g tb (splice l p ((xs.take (min xs.length m)).map B)) → Kp (· = g) w w' → w'.heap.size = w.heap.size → wpList P ops Q rest (a.put o.dst (.int .i64 ((min xs.length m : Nat) : Int))) w') : wpList P ops Q (o :: rest) a w :=
 wpList_plain hg fun K hK => by
  obtain ⟨w', hr, h2, h3, h4⟩ := run_copyS w (rt := o.type) (t2 := t2) hu hsz hb (mc := mc) (x := xs) ho
  unfold Oper.wp execOp
  simp only [hop, resolve, invoke, builtin, Sem.run_bind, Sem.run_pure, Result.andThen_ok, List.map_toArray, List.map_cons, List.map_nil, hs, hx, hr]
  exact hK _ _ (h w' h2 h3 h4)
end

theorem fold_set (off : Nat) : ∀ (vs : List Value) (i : Nat) (cs : Array Value), off + i + vs.length ≤ cs.size →
  (vs.zipIdx i).foldl (fun (cs : Array Value) (x : Value × Nat) => cs.setIfInBounds (off + x.2) x.1) cs = (splice cs.toList (off + i) vs).toArray
 | [], i, cs, _ => by simp [splice]
 | v :: vs, i, cs, h => by
  rw [List.length_cons] at h
  rw [List.zipIdx_cons, List.foldl_cons, fold_set off vs (i + 1) _ (by rw [Array.size_setIfInBounds]; omega)]
  congr 1
  have hl : off + i < cs.toList.length := by rw [Array.length_toList]; omega
  rw [Array.toList_setIfInBounds]
  unfold splice
  have e1 : (cs.toList.set (off + i) v).take (off + (i + 1)) = cs.toList.take (off + i) ++ [v] := by
   rw [show off + (i + 1) = off + i + 1 by omega, List.take_succ_eq_append_getElem (by rw [List.length_set]; omega), List.take_set_of_le (Nat.le_refl _), List.getElem_set_self]
  have e2 : (cs.toList.set (off + i) v).drop (off + (i + 1) + vs.length) = cs.toList.drop (off + i + (vs.length + 1)) := by
   rw [List.drop_set_of_lt (by omega)]; congr 1; omega
  rw [e1, e2, List.length_cons]
  simp
theorem fill_one (place : Nat → Option (Nat × Nat)) (cs : Array Value) (i : Nat) (vs : List Value) (rest : List (Nat × Value)) (off : Nat) (hp : place i = some (off, vs.length)) (h : off + vs.length ≤ cs.size) :
  Instr.fill place cs ((i, .agg vs.toArray) :: rest) = Instr.fill place (splice cs.toList off vs).toArray rest := by
 have e := fold_set off vs 0 cs (by omega)
 rw [Nat.add_zero] at e
 rw [Instr.fill, hp]
 simp only [Value.cells, List.size_toArray]
 rw [if_neg (by simp; omega)]
 congr 1
 rw [← e]
 simp

section
variable {P : Program} {w : World} {o : Oper} {a : Act} {Q : Exit → Act → World → Prop} {K : Act → World → Prop}
theorem wp_loadv (t : TypeId) (x : Operand) (hop : o.op = .load t x) (n : Nat) (ht : Agg P t n = true) (g p : Nat) (ms : List Value) (hx : a.eval x = .pointer (some ⟨g, p, none⟩))
  (hm : At w g p ms) (hn : ms.length = n) (h : K (a.put o.dst (.agg ms.toArray)) w) : o.wp P a w K Q := by
 unfold Oper.wp execOp
 simp only [hop, hx]
 simp [run_loadAt w ht hm hn, Result.andThen]
 exact h
theorem wp_box (t : TypeId) (x : Operand) (hop : o.op = .box t x) (l : List Value) (hx : a.eval x = .agg l.toArray)
  (h : ∀ w', BL w' w.heap.size t l → Below w.heap.size w w' → w'.heap.size = w.heap.size + 1 → K (a.put o.dst (.pointer (some ⟨w.heap.size, 0, none⟩))) w') : o.wp P a w K Q := by
 unfold Oper.wp execOp
 simp only [hop, hx]
 simp [Instr.box, newVar, newRow, Value.cells, Result.andThen]
 exact h _ (BL.new w t l) ((Below.refl _ _).alloc (Nat.le_refl _) _) (by simp)
theorem exec_build {t : TypeId} {parts : Array (Nat × Operand)} (hop : o.op = .build t parts) {ps : Array (Nat × Value)} (hps : (parts.map fun (i, x) => (i, a.eval x)) = ps) {v : Value} (hr : (Instr.build t ps).run P w = .ok v w) : (execOp a.eval o).run P w = .ok (.value v) w := by
 unfold execOp
 simp only [hop, hps]
 simp [hr, Result.andThen]
end
theorem splice_right (l1 l2 vs : List Value) (o : Nat) (ho : o = l1.length) (h : vs.length = l2.length) : splice (l1 ++ l2) o vs = l1 ++ vs := by
 subst ho; simp [splice, h]

section
variable {P : Program} {w : World}
theorem run_zero {t : TypeId} {z : Value} (h : (P.info? t).map (·.zero) = some (some z)) : (zeroValue t).run P w = .ok z w := by
 cases hi : P.info? t with
 | none => simp [hi] at h
 | some i =>
  have hz : i.zero = some z := by simpa [hi] using h
  simp [zeroValue, typeInfo, hi, hz]
/-- A struct of two parts of many cells, both given. -/
theorem build_two {t : TypeId} {f0 f1 : Field} {n1 n2 : Nat} (hu : P.underlying t = some (.struct #[f0, f1])) (h0 : f0.offset = 0) (h1 : f1.offset = n1) (hs0 : (sizeOf f0.type).run P w = .ok n1 w) (hs1 : (sizeOf f1.type).run P w = .ok n2 w)
  (z : Value) (hz : (zeroValue t).run P w = .ok z w) (hzs : z.cells.size = n1 + n2) (a b : List Value) (ha : a.length = n1) (hb : b.length = n2) :
  (Instr.build t #[(0, .agg a.toArray), (1, .agg b.toArray)]).run P w = .ok (.agg (a ++ b).toArray) w := by
 have hf : Instr.fill (fun x => [(0, n1), (n1, n2)][x]?) z.cells [(0, .agg a.toArray), (1, .agg b.toArray)] = some (a ++ b).toArray := by
  have hl : z.cells.toList.length = n1 + n2 := by rw [Array.length_toList]; exact hzs
  have e1 : (splice z.cells.toList 0 a).length = n1 + n2 := by
   unfold splice
   rw [List.length_append, List.length_append, List.length_take, List.length_drop, hl, ha]; omega
  rw [fill_one _ _ 0 _ _ 0 (by rw [ha]; rfl) (by rw [ha, hzs]; omega), fill_one _ _ 1 _ _ n1 (by rw [hb]; rfl) (by rw [hb, List.size_toArray, e1]; omega), Instr.fill]
  congr 2
  rw [List.toList_toArray]
  have e2 : splice z.cells.toList 0 a = a ++ z.cells.toList.drop n1 := by
   unfold splice; rw [List.take_zero, List.nil_append, Nat.zero_add, ha]
  rw [e2, splice_right _ _ _ _ ha.symm (by rw [hb, List.length_drop, hl]; omega)]
 unfold Instr.build
 simp [hz, run_underlying hu, hs0, hs1, h0, h1, Result.andThen, hf]
theorem build_one {t : TypeId} {f0 : Field} {n1 : Nat} (hu : P.underlying t = some (.struct #[f0])) (h0 : f0.offset = 0) (hs0 : (sizeOf f0.type).run P w = .ok n1 w)
  (z : Value) (hz : (zeroValue t).run P w = .ok z w) (hzs : z.cells.size = n1) (a : List Value) (ha : a.length = n1) :
  (Instr.build t #[(0, .agg a.toArray)]).run P w = .ok (.agg a.toArray) w := by
 have hf : Instr.fill (fun x => [(0, n1)][x]?) z.cells [(0, .agg a.toArray)] = some a.toArray := by
  have hl : z.cells.toList.length = n1 := by rw [Array.length_toList]; exact hzs
  rw [fill_one _ _ 0 _ _ 0 (by rw [ha]; rfl) (by rw [ha, hzs]; omega), Instr.fill]
  congr 2
  unfold splice
  rw [List.take_zero, List.nil_append, Nat.zero_add, ha, List.drop_eq_nil_of_le (by omega), List.append_nil]
 unfold Instr.build
 simp [hz, run_underlying hu, hs0, h0, Result.andThen, hf]
end
end Go.Proofs.YtfcakjpljjnjnaaGreatDoor
