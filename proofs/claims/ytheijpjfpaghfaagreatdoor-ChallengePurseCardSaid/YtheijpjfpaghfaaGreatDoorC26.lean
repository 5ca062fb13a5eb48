/- Several texts in one: Ef, Tk, Tl, Ha. -/
import Derived.Test.YtheijpjfpaghfaaGreatDoorC25
import Derived.Test.YtheijpjfpaghfaaGreatDoorC17
/- wire.NewReader, Uint, Count, Sum, Fail, End; epoch.readUint, isReply, replyBody. -/
namespace Go.Proofs.YtheijpjfpaghfaaGreatDoor
open Go Go.RowKit Gf Sha

section
set_option maxHeartbeats 1000000
theorem ruint_any (w : World) (g n c : Nat) (A : Option Addr) (b : List UInt8) (s : Rd) (h : RdS w g A n c b s) :
  Calls Tryz.prog 95 #[.pointer (some ⟨g, 0, none⟩)] w fun e w' => e = .returned (.int .u64 (((rdV 0 uD b s).1 : Nat) : Int)) ∧ RdS w' g A n c b (rdV 0 uD b s).2 ∧ Kp (· = g) w w' := by
 have H := Lib.hid (rvu_any w g n c A b s h)
 clear h
 have hmf : ∀ (fn : Fn) (first cap : Array Value) (w : World), (Instr.makeFunc fn first cap).run Tryz.prog w = .ok (.func fn first cap) w := fun _ _ _ _ => rfl
 go_enter Tryz.func95, Tryz.ntmps95
 go_wp2_with (first
  | (go_at_call 117; refine H.out.mono ?_; rintro e w1 ⟨rfl, h1⟩; have HR := Lib.hid h1; clear h1))
 go_ret
 exact ⟨rfl, HR.out⟩
theorem rcount_any (m : Nat) (hm : m ≤ 1099511627776) (w : World) (g n c : Nat) (A : Option Addr) (b : List UInt8) (s : Rd) (h : RdS w g A n c b s) :
  Calls Tryz.prog 29 #[.pointer (some ⟨g, 0, none⟩), .int .i64 (m : Int)] w fun e w' => e = .returned (.int .i64 (((rdV 0 (cD m) b s).1 : Nat) : Int)) ∧ RdS w' g A n c b (rdV 0 (cD m) b s).2 ∧ Kp (· = g) w w' := by
 have H := Lib.hid h
 clear h
 have hmf : ∀ (fn : Fn) (first cap : Array Value) (w : World), (Instr.makeFunc fn first cap).run Tryz.prog w = .ok (.func fn first cap) w := fun _ _ _ _ => rfl
 go_enter Tryz.func29, Tryz.ntmps29
 go_wp2_with (first
  | ((with_reducible show OpW 2); refine wpList_box1 _ rfl 73 (.tmp 0) rfl _ rfl rfl ?_; intro w1 y1 y2 y3; have HR1 := Lib.hid y1; have HB1 := Lib.hid y2; clear y1 y2 y3)
  | ((with_reducible show OpW 3); refine wpList_box1 _ rfl 3 (.tmp 1) rfl _ rfl rfl ?_; intro w2 y1 y2 y3; have HS2 := Lib.hid y1; have HR2 := Lib.hid (HR1.out.kept y2); have HB2 := Lib.hid (below_then HB1.out y2); have q2 := HR2.out.get (j := 0) rfl; clear y1 y2 y3)
  | (go_at_call 65; refine (rvi_any m hm w.heap.size w1.heap.size w2 g n c A b s (H.out.kept HB2.out) (HR2.out.get (j := 0) rfl) (HS2.out.get (j := 0) rfl)).mono ?_; rintro e w3 ⟨rfl, h1, h2⟩; have HR := Lib.hid h1; have HK := Lib.hid h2; clear h1 h2))
 go_ret
 exact ⟨rfl, HR.out, (Kp.of_below (S := (· = g)) HB2.out).trans HK.out⟩
theorem rdsum_any (w : World) (g n c : Nat) (A : Option Addr) (b : List UInt8) (s : Rd) (h : RdS w g A n c b s) :
  Calls Tryz.prog 68 #[.pointer (some ⟨g, 0, none⟩)] w fun e w' => e = .returned (.string (strB (rdV [] sD b s).1)) ∧ RdS w' g A n c b (rdV [] sD b s).2 ∧ Kp (· = g) w w' := by
 have H := Lib.hid h
 clear h
 have hmf : ∀ (fn : Fn) (first cap : Array Value) (w : World), (Instr.makeFunc fn first cap).run Tryz.prog w = .ok (.func fn first cap) w := fun _ _ _ _ => rfl
 go_enter Tryz.func68, Tryz.ntmps68
 go_wp2_with (first
  | ((with_reducible show OpW 1); refine wpList_box1 _ rfl 73 (.tmp 0) rfl _ rfl rfl ?_; intro w1 y1 y2 y3; have HR1 := Lib.hid y1; have HB1 := Lib.hid y2; have q2 := y1.get (j := 0) rfl; clear y1 y2 y3)
  | (go_at_call 91; refine (rvs_any w.heap.size w1 g n c A b s (H.out.kept HB1.out) (HR1.out.get (j := 0) rfl)).mono ?_; rintro e w3 ⟨rfl, h1, h2⟩; have HR := Lib.hid h1; have HK := Lib.hid h2; clear h1 h2))
 go_ret
 exact ⟨rfl, HR.out, (Kp.of_below (S := (· = g)) HB1.out).trans HK.out⟩
/-- The error at the end. -/
def endR (n : Nat) (s : Rd) : Int := if s.err = 0 then (if s.off < n then 3 else 0) else s.err
theorem end_any (w : World) (g n c : Nat) (A : Option Addr) (b : List UInt8) (s : Rd) (h : RdS w g A n c b s) :
  Calls Tryz.prog 32 #[.pointer (some ⟨g, 0, none⟩)] w fun e w' => (∃ z : Int, e = .returned (.tuple #[.int .i64 z, .int .i64 (endR n s)])) ∧ Below w.heap.size w w' := by
 obtain ⟨off, last, err⟩ := s
 obtain ⟨h, ho⟩ := h
 have q0 := h.1.get (j := 3) rfl
 have q1 := h.1.get (j := 1) rfl
 have H := Lib.hid h
 clear h
 by_cases h0 : err = 0
 rotate_left
 ·
  have f0 : (err != 0) = true := by rw [bne_iff_ne]; exact h0
  rw [endR, if_neg h0]
  clear h0
  go_enter Tryz.func32, Tryz.ntmps32
  go_wp2_with fail
  refine Text.wp_region_text (fun w' => w'.cell? ⟨g, 1, none⟩ = some (.int .i64 (off : Int)) ∧ w'.cell? ⟨g, 3, none⟩ = some (.int .i64 err)) [(0, 4), (1, 4), (2, 4), (4, 4), (5, 4), (6, 4), (3, 0), (8, 4), (7, 0), (9, 4)] (by kernel_rfl) (by kernel_rfl) (fun _ _ _ _ _ h => h) (⟨H.out.1.get (j := 1) rfl, H.out.1.get (j := 3) rfl⟩) ?_
  iterate 6 (refine Text.purek rfl rfl (fun K hK => ⟨_, fun w' => by go_simp <;> rfl, ?_⟩); go_simp; refine hK _ ?_; clear hK K)
  (refine Text.heldk rfl rfl (fun K hK => ⟨_, fun w' hw' => by go_simp <;> rfl, ?_⟩); go_simp; refine hK _ ?_; clear hK K)
  (refine Text.purek rfl rfl (fun K hK => ⟨_, fun w' => by go_simp <;> rfl, ?_⟩); go_simp; refine hK _ ?_; clear hK K)
  (refine Text.heldk rfl rfl (fun K hK => ⟨_, fun w' hw' => by go_simp <;> rfl, ?_⟩); go_simp; refine hK _ ?_; clear hK K)
  (refine Text.purek rfl rfl (fun K hK => ⟨_, fun w' => by go_simp <;> rfl, ?_⟩); go_simp; refine hK _ ?_; clear hK K)
  refine Text.done ?_
  go_wp2_with fail
  go_ret2
  exact ⟨⟨_, rfl⟩, (Below.refl _ _).drew⟩
 ·
  subst h0
  rw [endR, if_pos rfl]
  by_cases hlt : off < n
  ·
   rw [if_pos hlt]
   go_enter Tryz.func32, Tryz.ntmps32
   go_wp2_with fail
   refine Text.wp_region_text (fun w' => w'.cell? ⟨g, 0, none⟩ = some (.slice A n c) ∧ w'.cell? ⟨g, 1, none⟩ = some (.int .i64 (off : Int))) [(0, 4), (1, 4), (2, 4), (4, 4), (5, 4), (6, 4), (3, 0), (7, 0), (8, 4), (9, 4)] (by kernel_rfl) (by kernel_rfl) (fun _ _ _ _ _ h => h) (⟨H.out.1.get (j := 0) rfl, H.out.1.get (j := 1) rfl⟩) ?_
   iterate 6 (refine Text.purek rfl rfl (fun K hK => ⟨_, fun w' => by go_simp <;> rfl, ?_⟩); go_simp; refine hK _ ?_; clear hK K)
   iterate 2 (refine Text.heldk rfl rfl (fun K hK => ⟨_, fun w' hw' => by go_simp <;> rfl, ?_⟩); go_simp; refine hK _ ?_; clear hK K)
   iterate 2 (refine Text.purek rfl rfl (fun K hK => ⟨_, fun w' => by go_simp <;> rfl, ?_⟩); go_simp; refine hK _ ?_; clear hK K)
   refine Text.done ?_
   have q1 : w.drew.cell? ⟨g, 1, none⟩ = some (.int .i64 (off : Int)) := q1
   go_wp2_with fail
   go_ret2
   exact ⟨⟨_, rfl⟩, (Below.refl _ _).drew⟩
  ·
   rw [if_neg hlt]
   go_enter Tryz.func32, Tryz.ntmps32
   go_wp2_with fail
   refine Text.wp_region_text (fun w' => w'.cell? ⟨g, 0, none⟩ = some (.slice A n c) ∧ w'.cell? ⟨g, 1, none⟩ = some (.int .i64 (off : Int))) [(0, 4), (1, 4), (2, 4), (4, 4), (5, 4), (6, 4), (3, 0), (7, 0), (8, 4), (9, 4)] (by kernel_rfl) (by kernel_rfl) (fun _ _ _ _ _ h => h) (⟨H.out.1.get (j := 0) rfl, H.out.1.get (j := 1) rfl⟩) ?_
   iterate 6 (refine Text.purek rfl rfl (fun K hK => ⟨_, fun w' => by go_simp <;> rfl, ?_⟩); go_simp; refine hK _ ?_; clear hK K)
   iterate 2 (refine Text.heldk rfl rfl (fun K hK => ⟨_, fun w' hw' => by go_simp <;> rfl, ?_⟩); go_simp; refine hK _ ?_; clear hK K)
   iterate 2 (refine Text.purek rfl rfl (fun K hK => ⟨_, fun w' => by go_simp <;> rfl, ?_⟩); go_simp; refine hK _ ?_; clear hK K)
   refine Text.done ?_
   have q1 : w.drew.cell? ⟨g, 1, none⟩ = some (.int .i64 (off : Int)) := q1
   go_wp2_with fail
   go_ret2
   exact ⟨⟨_, rfl⟩, (Below.refl _ _).drew⟩
theorem bldRd (w : World) (A : Option Addr) (n c : Nat) : (Instr.build 133 #[(0, .slice A n c)]).run Tryz.prog w = .ok (.agg [.slice A n c, .int .i64 0, .int .i64 0, .int .i64 0].toArray) w := by kernel_rfl
/-- The bytes lie in a block of bytes. -/
def RdT (w : World) (A : Option Addr) : Prop := ∀ a, A = some a → ∃ l, BL w a.block 5 l
theorem rdT_own {w : World} {base n c : Nat} {A : Option Addr} {l : List Value} (h : w.ownsRow base 5 1 (.slice A n c) n l) : RdT w A := fun a ha => by
 rcases (RW.of_own h).1.2 with ⟨e, _⟩ | ⟨g, o, c, cs, e, hb, _⟩
 ·
  cases e; cases ha
 ·
  cases e; cases ha; exact ⟨cs, hb⟩
theorem newReader_any (w : World) (A : Option Addr) (n c : Nat) (b : List UInt8) (h : BS w A n c b) :
  Calls Tryz.prog 28 #[.slice A n c] w fun e w' => ∃ g A2 c2, e = .returned (.pointer (some ⟨g, 0, none⟩)) ∧ w.heap.size ≤ g ∧ RdS w' g A2 n c2 b ⟨0, 0, 0⟩ ∧ RdT w' A2 ∧ Below w.heap.size w w' := by
 have H := Lib.hid h
 have hn : n ≤ 140737488355328 := by have := h.2.2.1; unfold lim at this; exact this
 clear h
 go_enter Tryz.func28, Tryz.ntmps28
 go_wp2_with (first
  | ((with_reducible show OpW 3); refine wpList_bslice _ rfl 22 5 0 _ rfl #[] (by rw [List.map_toArray]; rfl) [] (bsl0 _) ?_; intro w1 y1 y2 y3; have HG1 := Lib.hid y1; have HB1 := Lib.hid y2; clear y1 y2 y3)
  | ((with_reducible show OpW 5); refine wpList_appB _ rfl (.tmp 3) (.tmp 4) rfl w.heap.size _ 0 [] rfl (BL.own HG1.out (Nat.le_refl _) rfl (by decide)) A n c b rfl (H.out.kept HB1.out) (by omega) HB1.out.size ?_; intro v2 w2 hp; have hown := hp.own; rw [Nat.zero_add, List.nil_append] at hown; obtain ⟨A2, c2, ev, hb2⟩ := BS.of_own hown (by unfold lim; omega); subst ev; have HTY := Lib.hid (rdT_own hown); have HB2 := Lib.hid hb2; have HP := Lib.hid (hp.below (BL.own HG1.out (Nat.le_refl _) rfl (by decide)) HB1.out (Nat.le_refl _) HB1.out.size); clear hp hown hb2)
  | ((with_reducible show OpW 6); refine wpList_build _ rfl 133 _ rfl #[(0, .slice A2 n c2)] (by rw [List.map_toArray]; rfl) _ (bldRd _ _ _ _) ?_)
  | ((with_reducible show OpW 7); refine wpList_box _ rfl 133 (.tmp 6) rfl [.slice A2 n c2, .int .i64 0, .int .i64 0, .int .i64 0] rfl ?_; intro w3 y1 y2 y3; have HG3 := Lib.hid y1; have HB3 := Lib.hid y2; clear y1 y2 y3))
 go_ret
 exact ⟨_, A2, c2, rfl, HP.out.size, ⟨⟨HG3.out, HB2.out.kept HB3.out, HB2.out.far_new (fun k e => Nat.le_of_eq e.symm)⟩, Nat.zero_le _⟩, fun a e => (let ⟨l, hl⟩ := HTY.out a e; ⟨l, hl.kept HB3.out⟩), below_thenB HP.out HP.out.size HB3.out⟩
end
end Go.Proofs.YtheijpjfpaghfaaGreatDoor
/- A number is read exactly from its encoding: plainly. -/
namespace Go.Proofs.YtheijpjfpaghfaaGreatDoor
open Go Gf

theorem or_nat (m : Nat) : (UInt8.ofNat m ||| 128).toNat = m % 128 + 128 := by
 rw [← low_of, UInt8.toNat_add, UInt8.toNat_ofNat']
 show (m % 128 % 256 + 128) % 256 = _
 omega
theorem numG_of : ∀ (f i n m : Nat) (t : List UInt8), i + f = 9 → (0 < i → 0 < m) → m < 2 ^ (64 - 7 * i) → numG (f + 1) i n (uvf f m ++ t) = some (n + m * 2 ^ (7 * i), i + (uvf f m).length)
 | f, i, n, m, t, hf, h0, hm => by
  by_cases hlt : m < 128
  ·
   rw [uvf_small f m hlt]
   have hb : (UInt8.ofNat m).toNat = m := by rw [UInt8.toNat_ofNat']; omega
   show numG (f + 1) i n (UInt8.ofNat m :: t) = _
   unfold numG
   rw [hb, if_neg (by omega), if_neg, show m % 128 = m by omega]
   ·
    rfl
   ·
    rintro (⟨h1, h2⟩ | ⟨h1, h2⟩)
    ·
     have := h0 h1; omega
    ·
     subst h1
     have h3 : (2 : Nat) ^ (64 - 7 * 9) = 2 := rfl
     omega
  ·
   cases f with
   | zero =>
    exfalso
    obtain rfl : i = 9 := by omega
    have h3 : (2 : Nat) ^ (64 - 7 * 9) = 2 := rfl
    omega
   | succ f =>
    rw [uvf_more f m hlt]
    show numG (f + 1 + 1) i n ((UInt8.ofNat m ||| 128) :: (uvf f (m >>> 7) ++ t)) = _
    have hdiv : m >>> 7 = m / 128 := by rw [Nat.shiftRight_eq_div_pow]
    rw [numG, or_nat, if_pos (by omega), numG_of f (i + 1) _ (m >>> 7) t (by omega) (fun _ => by rw [hdiv]; omega) (by
     rw [hdiv]
     have h4 : 64 - 7 * i = (64 - 7 * (i + 1)) + 7 := by omega
     rw [h4, Nat.pow_add] at hm
     exact Nat.div_lt_of_lt_mul (by rw [Nat.mul_comm]; exact hm))]
    rw [hdiv, List.length_cons]
    congr 2
    ·
     rw [show 7 * (i + 1) = 7 * i + 7 by omega, Nat.pow_add, show (2 : Nat) ^ 7 = 128 from rfl, Nat.add_assoc, show (m % 128 + 128) % 128 = m % 128 by omega]
     congr 1
     rw [Nat.mul_comm (2 ^ (7 * i)) 128, ← Nat.mul_assoc, ← Nat.add_mul]
     congr 1
     omega
    ·
     omega
theorem uvf_next : ∀ (f n : Nat), n < 128 ^ (f + 1) → uvf f n = uvf (f + 1) n
 | 0, n, h => by rw [uvf_small 0 n (by simpa using h), uvf_small 1 n (by simpa using h)]
 | f + 1, n, h => by
  by_cases hlt : n < 128
  ·
   rw [uvf_small _ n hlt, uvf_small _ n hlt]
  ·
   rw [uvf_more f n hlt, uvf_more (f + 1) n hlt, uvf_next f (n >>> 7) (by
    rw [Nat.shiftRight_eq_div_pow]
    rw [Nat.pow_succ] at h
    exact Nat.div_lt_of_lt_mul (by rw [Nat.mul_comm]; exact h))]
theorem uv_nine {n : Nat} (h : n < 18446744073709551616) : uvf 9 n = uv n := uvf_next 9 n (Nat.lt_of_lt_of_le h (by decide))
theorem num_of (v : Nat) (t : List UInt8) (hv : v < 18446744073709551616) : num (uv v ++ t) = some (v, (uv v).length) := by
 rw [← uv_nine hv]
 have := numG_of 9 0 0 v t rfl (fun h => by omega) (by simpa using hv)
 simpa [num] using this
end Go.Proofs.YtheijpjfpaghfaaGreatDoor
/- The reference's take, plainly: it gives what num gives, up to a bound. -/
namespace Go.Proofs.YtheijpjfpaghfaaGreatDoor
open Go Gf

end Go.Proofs.YtheijpjfpaghfaaGreatDoor
/- What a purse's encoding says about a piece, plainly; wire.Reader: Int, Left. -/
namespace Go.Proofs.YtheijpjfpaghfaaGreatDoor
open Go Go.RowKit Gf Sha

/-- What a purse has for a piece. -/
structure En where
 s : List UInt8
 i : Int
 tk : List Sc
 us : List (List UInt8)
def unz (n : Nat) : Int := if n % 2 = 1 then -((n / 2 : Nat) : Int) - 1 else ((n / 2 : Nat) : Int)
theorem num_bound : ∀ (f i n : Nat) (r : List UInt8) (v k : Nat), f + i = 10 → n < 2 ^ (7 * i) → numG f i n r = some (v, k) → v < 18446744073709551616 := by
 intro f
 induction f with
 | zero => intro i n r v k _ _ h; cases h
 | succ f ih =>
  intro i n r v k hf hn h
  cases r with
  | nil => cases h
  | cons b r =>
   by_cases h1 : 128 ≤ b.toNat
   ·
    rw [numG_step h1] at h
    exact ih (i + 1) _ r v k (by omega) (num_lt hn) h
   ·
    by_cases h2 : (0 < i ∧ b.toNat = 0) ∨ (i = 9 ∧ 1 < b.toNat)
    ·
     rw [numG_bad h1 h2] at h; cases h
    ·
     rw [numG_end h1 h2] at h
     injection h with h
     injection h with h _
     subst h
     by_cases h9 : i = 9
     ·
      subst h9
      have h3 : b.toNat ≤ 1 := by omega
      have h4 : (b.toNat % 128) * 2 ^ (7 * 9) ≤ 1 * 2 ^ 63 := Nat.mul_le_mul (by omega) (by decide)
      have h5 : (2 : Nat) ^ (7 * 9) = 9223372036854775808 := by decide
      have h6 : (2 : Nat) ^ 63 = 9223372036854775808 := by decide
      omega
     ·
      have h3 := num_lt (y := b.toNat) hn
      have h4 : 2 ^ (7 * (i + 1)) ≤ 2 ^ 63 := Nat.pow_le_pow_right (by decide) (by omega)
      have h6 : (2 : Nat) ^ 63 = 9223372036854775808 := by decide
      omega
theorem uD_bound {r : List UInt8} {x : Nat × Nat} (h : uD r = .ok x) : x.1 < 18446744073709551616 := by
 unfold uD at h
 cases hn : num r with
 | none => rw [hn] at h; cases h
 | some y =>
  rw [hn] at h
  injection h with h
  subst h
  exact num_bound 10 0 0 r y.1 y.2 rfl (by decide) hn
theorem rdU_bound (b : List UInt8) (s : Rd) : (rdV 0 uD b s).1 < 18446744073709551616 := by
 obtain ⟨off, last, err⟩ := s
 by_cases h0 : err = 0
 ·
  subst h0
  cases h : uD (b.drop off) with
  | ok x => rw [rdV_ok h]; exact uD_bound h
  | error e => rw [rdV_bad h]; exact (by decide : (0 : Nat) < 18446744073709551616)
 ·
  rw [rdV_err h0]; exact (by decide : (0 : Nat) < 18446744073709551616)

section
set_option maxHeartbeats 1000000
theorem unzigzag_any (n : Nat) (hn : n < 18446744073709551616) (w : World) : Calls Tryz.prog 94 #[.int .u64 (n : Int)] w fun e w' => e = .returned (.int .i64 (unz n)) ∧ w' = w := by
 have t1 : (n : Int).tmod 2 = ((n % 2 : Nat) : Int) := rfl
 have t2 : (n : Int).tdiv 2 = ((n / 2 : Nat) : Int) := rfl
 have w1 : IntKind.u64.wrap ((n % 2 : Nat) : Int) = ((n % 2 : Nat) : Int) := by show ((n % 2 : Nat) : Int) % 18446744073709551616 = _; omega
 have w2 : IntKind.u64.wrap ((n / 2 : Nat) : Int) = ((n / 2 : Nat) : Int) := by show ((n / 2 : Nat) : Int) % 18446744073709551616 = _; omega
 have w3 : IntKind.i64.wrap ((n / 2 : Nat) : Int) = ((n / 2 : Nat) : Int) := IntWalk.i64_in _ (by omega)
 have w4 : IntKind.i64.wrap (-((n / 2 : Nat) : Int)) = -((n / 2 : Nat) : Int) := IntWalk.i64_in _ (by omega)
 have w5 : IntKind.i64.wrap (-((n / 2 : Nat) : Int) - 1) = -((n / 2 : Nat) : Int) - 1 := IntWalk.i64_in _ (by omega)
 by_cases h : n % 2 = 1
 ·
  have e1 : (((n % 2 : Nat) : Int) == 1) = true := by rw [h]; rfl
  rw [unz, if_pos h]
  clear h
  go_enter Tryz.func94, Tryz.ntmps94
  go_wp2_with fail
  go_ret
  exact ⟨rfl, rfl⟩
 ·
  have e1 : (((n % 2 : Nat) : Int) == 1) = false := by rw [beq_eq_false_iff_ne]; omega
  rw [unz, if_neg h]
  clear h
  go_enter Tryz.func94, Tryz.ntmps94
  go_wp2_with fail
  go_ret
  exact ⟨rfl, rfl⟩
theorem rint_any (w : World) (g n c : Nat) (A : Option Addr) (b : List UInt8) (s : Rd) (h : RdS w g A n c b s) :
  Calls Tryz.prog 69 #[.pointer (some ⟨g, 0, none⟩)] w fun e w' => e = .returned (.int .i64 (unz (rdV 0 uD b s).1)) ∧ RdS w' g A n c b (rdV 0 uD b s).2 ∧ Kp (· = g) w w' := by
 have H := Lib.hid (ruint_any w g n c A b s h)
 have HB := Lib.hid (rdU_bound b s)
 obtain ⟨N, hN⟩ : ∃ N, N = (rdV 0 uD b s).1 := ⟨_, rfl⟩
 rw [← hN] at H HB ⊢
 clear h hN
 go_enter Tryz.func69, Tryz.ntmps69
 go_wp2_with (first
  | (go_at_call 95; refine H.out.mono ?_; rintro e w1 ⟨rfl, h1, h2⟩; have HR := Lib.hid h1; have HK := Lib.hid h2; clear h1 h2)
  | (go_at_call 94; refine (unzigzag_any N HB.out w1).mono ?_; rintro e w2 ⟨rfl, rfl⟩))
 go_ret
 exact ⟨rfl, HR.out, HK.out⟩
theorem left_rd (w : World) (g n c : Nat) (A : Option Addr) (b : List UInt8) (s : Rd) (h : RdS w g A n c b s) :
  Calls Tryz.prog 30 #[.pointer (some ⟨g, 0, none⟩)] w fun e w' => e = .returned (.int .i64 ((n : Int) - (s.off : Int))) ∧ w' = w.drew := by
 obtain ⟨off, last, err⟩ := s
 obtain ⟨h, ho⟩ := h
 have ho' : off ≤ n := ho
 have hlim : n ≤ 140737488355328 := by have := h.2.1.2.2.1; unfold lim at this; omega
 have H := Lib.hid h
 have f0 : IntKind.i64.wrap ((n : Int) - (off : Int)) = (n : Int) - (off : Int) := IntWalk.i64_in _ (by omega)
 clear h ho
 go_enter Tryz.func30, Tryz.ntmps30
 go_wp2_with fail
 refine Text.wp_region_text (fun w' => w'.cell? ⟨g, 0, none⟩ = some (.slice A n c) ∧ w'.cell? ⟨g, 1, none⟩ = some (.int .i64 (off : Int))) [(0, 4), (1, 4), (2, 4), (5, 4), (6, 4), (7, 4), (3, 0), (4, 4), (8, 0), (9, 4), (10, 4)] (by kernel_rfl) (by kernel_rfl) (fun _ _ _ _ _ h => h) (⟨H.out.1.get (j := 0) rfl, H.out.1.get (j := 1) rfl⟩) ?_
 iterate 6 (refine Text.purek rfl rfl (fun K hK => ⟨_, fun w' => by go_simp <;> rfl, ?_⟩); go_simp; refine hK _ ?_; clear hK K)
 (refine Text.heldk rfl rfl (fun K hK => ⟨_, fun w' hw' => by go_simp <;> rfl, ?_⟩); go_simp; refine hK _ ?_; clear hK K)
 (refine Text.purek rfl rfl (fun K hK => ⟨_, fun w' => by go_simp <;> rfl, ?_⟩); go_simp; refine hK _ ?_; clear hK K)
 (refine Text.heldk rfl rfl (fun K hK => ⟨_, fun w' hw' => by go_simp <;> rfl, ?_⟩); go_simp; refine hK _ ?_; clear hK K)
 iterate 2 (refine Text.purek rfl rfl (fun K hK => ⟨_, fun w' => by go_simp <;> rfl, ?_⟩); go_simp; refine hK _ ?_; clear hK K)
 refine Text.done ?_
 go_wp2_with fail
 go_ret
 exact ⟨rfl, rfl⟩
end

/-- Tokens, used nonces, a record, records are read. -/
def rdTk (b : List UInt8) : Nat → List Sc × Rd → List Sc × Rd
 | 0, x => x
 | k + 1, x => rdTk b k (x.1 ++ [((rdV [] sD b x.2).1, (rdV [] sD b (rdV [] sD b x.2).2).1)], (rdV [] sD b (rdV [] sD b x.2).2).2)
def rdUs (b : List UInt8) : Nat → List (List UInt8) × Rd → List (List UInt8) × Rd
 | 0, x => x
 | k + 1, x => rdUs b k (x.1 ++ [(rdV [] sD b x.2).1], (rdV [] sD b x.2).2)
def rdA (b : List UInt8) (s : Rd) : Rd := (rdV 0 uD b (rdV [] sD b s).2).2
def rdC (b : List UInt8) (s : Rd) : Nat × Rd := rdV 0 (cD 4096) b s
def rdTs (b : List UInt8) (s : Rd) : List Sc × Rd := rdTk b (rdC b (rdA b s)).1 ([], (rdC b (rdA b s)).2)
def rdUu (b : List UInt8) (s : Rd) : List (List UInt8) × Rd := rdUs b (rdC b (rdTs b s).2).1 ([], (rdC b (rdTs b s).2).2)
def rdRec (b : List UInt8) (s : Rd) : En × Rd := (⟨(rdV [] sD b s).1, unz (rdV 0 uD b (rdV [] sD b s).2).1, (rdTs b s).1, (rdUu b s).1⟩, (rdUu b s).2)
def rdRecs (b : List UInt8) : Nat → List En × Rd → List En × Rd
 | 0, x => x
 | k + 1, x => rdRecs b k (x.1 ++ [(rdRec b x.2).1], (rdRec b x.2).2)
theorem rdC_le (b : List UInt8) (s : Rd) : (rdC b s).1 ≤ 4096 := by
 unfold rdC
 obtain ⟨off, last, err⟩ := s
 by_cases h0 : err = 0
 ·
  subst h0
  cases h : cD 4096 (b.drop off) with
  | ok x =>
   rw [rdV_ok h]
   unfold cD at h
   cases hn : num (b.drop off) with
   | none => rw [hn] at h; cases h
   | some y =>
    rw [hn] at h
    have h' : (if y.1 ≤ 4096 then (Except.ok y : Except Int (Nat × Nat)) else .error 2) = .ok x := h
    by_cases hy : y.1 ≤ 4096
    ·
     rw [if_pos hy] at h'
     injection h' with h'
     subst h'; exact hy
    ·
     rw [if_neg hy] at h'; cases h'
  | error e => rw [rdV_bad h]; exact Nat.zero_le _
 ·
  rw [rdV_err h0]; exact Nat.zero_le _
/-- In error: nothing is read. -/
theorem rdTk_err (b : List UInt8) : ∀ (k : Nat) (x : List Sc × Rd), x.2.err ≠ 0 → (rdTk b k x).2 = x.2
 | 0, _, _ => rfl
 | k + 1, x, h => by
  have e1 : (rdV [] sD b x.2).2 = x.2 := by rw [rdV_err h]
  rw [rdTk, rdTk_err b k _ (by show (rdV [] sD b (rdV [] sD b x.2).2).2.err ≠ 0; rw [e1, e1]; exact h)]
  show (rdV [] sD b (rdV [] sD b x.2).2).2 = x.2
  rw [e1, e1]
theorem rdUs_err (b : List UInt8) : ∀ (k : Nat) (x : List (List UInt8) × Rd), x.2.err ≠ 0 → (rdUs b k x).2 = x.2
 | 0, _, _ => rfl
 | k + 1, x, h => by
  have e1 : (rdV [] sD b x.2).2 = x.2 := by rw [rdV_err h]
  rw [rdUs, rdUs_err b k _ (by show (rdV [] sD b x.2).2.err ≠ 0; rw [e1]; exact h)]
  exact e1
theorem rdRec_err (b : List UInt8) (s : Rd) (h : s.err ≠ 0) : (rdRec b s).2 = s := by
 have e1 : (rdV [] sD b s).2 = s := by rw [rdV_err h]
 have e2 : (rdV 0 uD b s).2 = s := by rw [rdV_err h]
 have e3 : rdA b s = s := by unfold rdA; rw [e1, e2]
 have e4 : (rdC b s).2 = s := by unfold rdC; rw [rdV_err h]
 have e5 : (rdTs b s).2 = s := by
  unfold rdTs
  rw [e3, rdTk_err _ _ _ (by rw [e4]; exact h)]
  exact e4
 show (rdUu b s).2 = s
 unfold rdUu
 rw [e5, rdUs_err _ _ _ (by rw [e4]; exact h)]
 exact e4
theorem rdRecs_err (b : List UInt8) : ∀ (k : Nat) (x : List En × Rd), x.2.err ≠ 0 → (rdRecs b k x).2 = x.2
 | 0, _, _ => rfl
 | k + 1, x, h => by
  rw [rdRecs, rdRecs_err b k _ (by show (rdRec b x.2).2.err ≠ 0; rw [rdRec_err b _ h]; exact h)]
  exact rdRec_err b _ h
/-- Without an error the reader goes on. -/
theorem rdV_off {α : Type} (z : α) (d : List UInt8 → Except Int (α × Nat)) (b : List UInt8) (s : Rd) : s.off ≤ (rdV z d b s).2.off := by
 obtain ⟨off, last, err⟩ := s
 by_cases h0 : err = 0
 ·
  subst h0
  cases h : d (b.drop off) with
  | ok x => rw [rdV_ok h]; exact Nat.le_add_right _ _
  | error e => rw [rdV_bad h]; exact Nat.le_refl _
 ·
  rw [rdV_err h0]; exact Nat.le_refl _
theorem rdV_noerr {α : Type} {z : α} {d : List UInt8 → Except Int (α × Nat)} {b : List UInt8} {s : Rd} (h : (rdV z d b s).2.err = 0) : s.err = 0 := by
 by_cases h0 : s.err = 0
 ·
  exact h0
 ·
  rw [rdV_err h0] at h; exact h
theorem rdS_step {b : List UInt8} {s : Rd} (h : (rdV [] sD b s).2.err = 0) : (rdV [] sD b s).2.off = s.off + 32 := by
 have h0 := rdV_noerr h
 obtain ⟨off, last, err⟩ := s
 obtain rfl : err = 0 := h0
 cases hd : sD (b.drop off) with
 | ok x =>
  rw [rdV_ok hd]
  unfold sD at hd
  split at hd
  ·
   injection hd with hd; subst hd; rfl
  ·
   cases hd
 | error e => rw [rdV_bad hd] at h; exact absurd h (sD_err hd)
theorem rdTk_mono (b : List UInt8) : ∀ (k : Nat) (x : List Sc × Rd), x.2.off ≤ (rdTk b k x).2.off ∧ ((rdTk b k x).2.err = 0 → x.2.err = 0)
 | 0, _ => ⟨Nat.le_refl _, id⟩
 | k + 1, x => by
  have h := rdTk_mono b k (x.1 ++ [((rdV [] sD b x.2).1, (rdV [] sD b (rdV [] sD b x.2).2).1)], (rdV [] sD b (rdV [] sD b x.2).2).2)
  exact ⟨Nat.le_trans (Nat.le_trans (rdV_off [] sD b x.2) (rdV_off [] sD b (rdV [] sD b x.2).2)) h.1, fun h9 => rdV_noerr (rdV_noerr (h.2 h9))⟩
theorem rdUs_mono (b : List UInt8) : ∀ (k : Nat) (x : List (List UInt8) × Rd), x.2.off ≤ (rdUs b k x).2.off ∧ ((rdUs b k x).2.err = 0 → x.2.err = 0)
 | 0, _ => ⟨Nat.le_refl _, id⟩
 | k + 1, x => by
  have h := rdUs_mono b k (x.1 ++ [(rdV [] sD b x.2).1], (rdV [] sD b x.2).2)
  exact ⟨Nat.le_trans (rdV_off [] sD b x.2) h.1, fun h9 => rdV_noerr (h.2 h9)⟩
theorem rdRec_step {b : List UInt8} {s : Rd} (h : (rdRec b s).2.err = 0) : s.off + 32 ≤ (rdRec b s).2.off ∧ s.err = 0 := by
 have h1 := rdUs_mono b (rdC b (rdTs b s).2).1 ([], (rdC b (rdTs b s).2).2)
 have h2 : (rdTs b s).2.off ≤ (rdC b (rdTs b s).2).2.off := rdV_off _ _ _ _
 have h3 := rdTk_mono b (rdC b (rdA b s)).1 ([], (rdC b (rdA b s)).2)
 have h4 : (rdA b s).off ≤ (rdC b (rdA b s)).2.off := rdV_off _ _ _ _
 have h5 : (rdV [] sD b s).2.off ≤ (rdA b s).off := rdV_off _ _ _ _
 have e1 : (rdC b (rdTs b s).2).2.err = 0 := h1.2 h
 have e2 : (rdTs b s).2.err = 0 := rdV_noerr e1
 have e3 : (rdC b (rdA b s)).2.err = 0 := h3.2 e2
 have e4 : (rdA b s).err = 0 := rdV_noerr e3
 have e5 : (rdV [] sD b s).2.err = 0 := rdV_noerr e4
 have h6 := rdS_step e5
 refine ⟨?_, rdV_noerr e5⟩
 have a1 : (rdC b (rdTs b s).2).2.off ≤ (rdRec b s).2.off := h1.1
 have a2 : (rdC b (rdA b s)).2.off ≤ (rdTs b s).2.off := h3.1
 omega
end Go.Proofs.YtheijpjfpaghfaaGreatDoor
