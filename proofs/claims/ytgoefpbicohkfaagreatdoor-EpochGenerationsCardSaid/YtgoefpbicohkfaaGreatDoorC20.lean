/- Several texts in one: Ei, Ej, Ek. -/
import Derived.Test.YtgoefpbicohkfaaGreatDoorC19
/- epoch.replyBody, EncodeReply, isReply. -/
namespace Go.Proofs.YtgoefpbicohkfaaGreatDoor
open Go Go.RowKit Gf Sha

section
set_option maxRecDepth 100000
set_option maxHeartbeats 2000000
theorem wfI_lt {z : Int} (h : wfI z) : -9223372036854775808 ≤ z ∧ z < 9223372036854775808 := by
  have hmin : IntKind.i64.min = -9223372036854775808 := rfl
  have hmax : IntKind.i64.max = 9223372036854775807 := rfl
  unfold wfI at h
  simp only [Lit.wf, Bool.and_eq_true, decide_eq_true_eq] at h
  omega
def BytesR (l : List UInt8) (w : World) (e : Ending) (w' : World) : Prop := ∃ A n c, e = .returned (.slice A n c) ∧ BS w' A n c l ∧ Below w.heap.size w w'
theorem replyBody_any (cs : List Value) (p : Pp) (w : World) (h : rPp w cs p) (hd : 0 ≤ p.dev) (hs : 0 ≤ p.seq) :
    Calls Tryz.prog 24 #[.agg cs.toArray] w (BytesR (rbL p) w) := by
  obtain ⟨A1, n1, c1, A2, n2, c2, rfl, hl1, hl2, hwd, hws, _⟩ := h
  clear hl1 hl2
  obtain ⟨D, hD⟩ : ∃ D, D = p.dev.toNat := ⟨_, rfl⟩
  obtain ⟨S, hS⟩ : ∃ D, D = p.seq.toNat := ⟨_, rfl⟩
  have fd : IntKind.u64.wrap p.dev = (D : Int) := wrapN (by omega) (by have := wfI_lt hwd; omega)
  have fs : IntKind.u64.wrap p.seq = (S : Int) := wrapN (by omega) (by have := wfI_lt hws; omega)
  have HD : Hid (D < 9223372036854775808) := Lib.hid (by have := wfI_lt hwd; omega)
  have HS : Hid (S < 9223372036854775808) := Lib.hid (by have := wfI_lt hws; omega)
  have HE : Hid (rbL p = uv D ++ uv S) := Lib.hid (by rw [rbL, hD, hS])
  clear hD hS hwd hws hd hs
  go_enter Tryz.func24, Tryz.ntmps24
  go_wp2_with (first
    | ((with_reducible show wpList _ _ _ (⟨some 1, _, _, _, _, _⟩ :: _) _ _); refine wpList_box _ rfl 34 (.tmp 0) rfl (ppC p A1 n1 c1 A2 n2 c2) rfl ?_; intro w1 y1 y2 y3; have HB1 := Lib.hid y2; have HP1 := Lib.hid y1; clear y1 y2 y3))
  refine Text.wp_region_text (fun w' => w'.cell? ⟨w.heap.size, 0, none⟩ = some (.int .i64 p.dev) ∧ w'.cell? ⟨w.heap.size, 1, none⟩ = some (.int .i64 p.seq)) [(0, 4), (4, 4), (1, 0), (2, 4), (5, 0), (6, 4), (3, 2), (7, 2), (8, 4)] (by kernel_rfl) (by kernel_rfl) (fun _ _ _ _ _ h => h) (⟨HP1.out.get (j := 0) rfl, HP1.out.get (j := 1) rfl⟩) ?_
  iterate 2 (refine Text.purek rfl rfl (fun K hK => ⟨_, fun w' => by go_simp <;> rfl, ?_⟩); go_simp; refine hK _ ?_; clear hK K)
  (refine Text.heldk rfl rfl (fun K hK => ⟨_, fun w' hw' => by go_simp <;> rfl, ?_⟩); go_simp; refine hK _ ?_; clear hK K)
  (refine Text.purek rfl rfl (fun K hK => ⟨_, fun w' => by go_simp <;> rfl, ?_⟩); go_simp; refine hK _ ?_; clear hK K)
  (refine Text.heldk rfl rfl (fun K hK => ⟨_, fun w' hw' => by go_simp <;> rfl, ?_⟩); go_simp; refine hK _ ?_; clear hK K)
  (refine Text.purek rfl rfl (fun K hK => ⟨_, fun w' => by go_simp <;> rfl, ?_⟩); go_simp; refine hK _ ?_; clear hK K)
  refine Text.eff rfl rfl (fun K hK => ?_)
  go_simp
  refine (appu_any none 0 0 D [] w1.drew BS.nil (by decide) HD.out).mono ?_
  rintro e w2 ⟨v, g, n, c, rfl, rfl, h1, h2, h3, h4⟩
  have HP2 := Lib.hid (HP1.out.drew.kept h3)
  have HB2 : Hid (Below w.heap.size w w2) := Lib.hid (below_thenB HB1.out.drew HB1.out.size h3)
  obtain ⟨A9, c9, e9, hbs⟩ := BS.of_own h2 (by rw [List.nil_append] at h1; have := (uv_length D).2; unfold lim; omega)
  cases e9
  rw [List.nil_append] at hbs h1
  have HBS := Lib.hid hbs
  have HN : Hid (n ≤ 11) := Lib.hid (by have := (uv_length D).2; omega)
  refine hK _ _ ⟨HP2.out.get (j := 0) rfl, HP2.out.get (j := 1) rfl⟩ ?_
  clear hK K h1 h2 h3 h4 hbs
  refine Text.eff rfl rfl (fun K hK => ?_)
  go_simp
  refine (appu_any _ n c S _ w2 HBS.out (by have := HN.out; omega) HS.out).mono ?_
  rintro e w3 ⟨v, g3, n3, c3, rfl, rfl, h1, h2, h3, h4⟩
  obtain ⟨A9, c9, e9, hbs⟩ := BS.of_own h2 (by rw [← h1, List.length_append]; have := (uv_length D).2; have := (uv_length S).2; unfold lim; omega)
  cases e9
  have HBS3 := Lib.hid hbs
  have HB3 : Hid (Below w.heap.size w w3) := Lib.hid (below_thenB HB2.out HB2.out.size h3)
  refine hK _ _ ⟨(HP2.out.kept h3).get (j := 0) rfl, (HP2.out.kept h3).get (j := 1) rfl⟩ ?_
  clear hK K h1 h2 h3 h4 hbs
  (refine Text.purek rfl rfl (fun K hK => ⟨_, fun w' => by go_simp <;> rfl, ?_⟩); go_simp; refine hK _ ?_; clear hK K)
  refine Text.done ?_
  go_wp2_with fail
  go_ret
  exact ⟨_, _, _, rfl, by rw [HE.out]; exact HBS3.out, HB3.out⟩
theorem encr_bad (cs : List Value) (p : Pp) (w : World) (h : rPp w cs p) (hv : validB p = false) :
    Calls Tryz.prog 9 #[.agg cs.toArray] w fun e w' => e = .returned (.tuple #[.slice none 0 0, .int .i64 1]) ∧ Below w.heap.size w w' := by
  have H := Lib.hid h
  obtain ⟨A1, n1, c1, A2, n2, c2, rfl, _⟩ := h
  go_enter Tryz.func9, Tryz.ntmps9
  go_wp2_with (first
    | ((with_reducible show wpList _ _ _ (⟨some 1, _, _, _, _, _⟩ :: _) _ _); refine wpList_box _ rfl 34 (.tmp 0) rfl (ppC p A1 n1 c1 A2 n2 c2) rfl ?_; intro w1 y1 y2 y3; have HB1 := Lib.hid y2; have HP1 := Lib.hid y1; clear y1 y2 y3)
    | ((with_reducible show wpList _ _ _ (⟨some 4, _, _, _, _, _⟩ :: _) _ _); refine wpList_loadv _ rfl 34 (.tmp 1) rfl 5 (by kernel_rfl) w.heap.size 0 _ rfl (BL.all HP1.out) rfl ?_)
    | (go_at_call 18; refine (valid_any _ p w1 (stay_pp _ _ _ _ H.out HB1.out)).mono ?_; rintro e w2 ⟨rfl, b2⟩; rw [hv]; have HB2 := Lib.hid (below_then HB1.out b2); clear b2))
  go_ret2
  exact ⟨rfl, HB2.out⟩
theorem valid_dev {p : Pp} (h : validB p = true) : 0 ≤ p.dev ∧ p.dev < 12 ∧ 1 ≤ p.seq := by
  have h1 := valid_p h
  exact ⟨(h1.ws _ h1.dev).1, (h1.ws _ h1.dev).2, h1.seq⟩
theorem encr_ok (cs : List Value) (p : Pp) (w : World) (h : rPp w cs p) (hv : validB p = true) :
    Calls Tryz.prog 9 #[.agg cs.toArray] w fun e w' => ∃ A n c, e = .returned (.tuple #[.slice A n c, .int .i64 0]) ∧ BS w' A n c (rbL p) ∧ Below w.heap.size w w' := by
  have H := Lib.hid h
  have HVD := Lib.hid (valid_dev hv)
  obtain ⟨A1, n1, c1, A2, n2, c2, rfl, _⟩ := h
  go_enter Tryz.func9, Tryz.ntmps9
  go_wp2_with (first
    | ((with_reducible show wpList _ _ _ (⟨some 1, _, _, _, _, _⟩ :: _) _ _); refine wpList_box _ rfl 34 (.tmp 0) rfl (ppC p A1 n1 c1 A2 n2 c2) rfl ?_; intro w1 y1 y2 y3; have HB1 := Lib.hid y2; have HP1 := Lib.hid y1; clear y1 y2 y3)
    | ((with_reducible show wpList _ _ _ (⟨some 4, _, _, _, _, _⟩ :: _) _ _); refine wpList_loadv _ rfl 34 (.tmp 1) rfl 5 (by kernel_rfl) w.heap.size 0 _ rfl (BL.all HP1.out) rfl ?_)
    | (go_at_call 18; refine (valid_any _ p w1 (stay_pp _ _ _ _ H.out HB1.out)).mono ?_; rintro e w2 ⟨rfl, b2⟩; rw [hv]; have HB2 := Lib.hid (below_then HB1.out b2); have HP2 := Lib.hid (HP1.out.kept b2); clear b2)
    | ((with_reducible show wpList _ _ _ (⟨some 7, _, _, _, _, _⟩ :: _) _ _); refine wpList_loadv _ rfl 34 (.tmp 1) rfl 5 (by kernel_rfl) w.heap.size 0 _ rfl (BL.all HP2.out) rfl ?_)
    | (go_at_call 24; refine (replyBody_any _ p w2 (stay_pp _ _ _ _ H.out HB2.out) HVD.out.1 (by have := HVD.out.2.2; omega)).mono ?_; rintro e w3 ⟨A, n, c, rfl, b1, b2⟩; have HS3 := Lib.hid b1; have HB3 := Lib.hid (below_thenB HB2.out HB2.out.size b2); clear b1 b2))
  go_ret2
  exact ⟨A, n, c, rfl, HS3.out, HB3.out⟩
/-- Has an entry the kind of a reply? -/
def isRep (x : En) : Bool := x.kind == 4 || x.kind == 5
theorem isRep_any (cs : List Value) (x : En) (w : World) (h : rEn w cs x) :
    Calls Tryz.prog 49 #[.agg cs.toArray] w fun e w' => e = .returned (.bool (isRep x)) ∧ Below w.heap.size w w' := by
  obtain ⟨A, n, c, rfl, _⟩ := h
  cases f1 : (x.kind == 4) with
  | true =>
    have HR : Hid (isRep x = true) := Lib.hid (by rw [isRep, f1]; rfl)
    go_enter Tryz.func49, Tryz.ntmps49
    go_wp2_with (first
      | ((with_reducible show wpList _ _ _ (⟨some 1, _, _, _, _, _⟩ :: _) _ _); refine wpList_box _ rfl 38 (.tmp 0) rfl (enC x A n c) rfl ?_; intro w1 y1 y2 y3; have HB1 := Lib.hid y2; have q0 := y1.get (j := 2) rfl; clear y1 y2 y3))
    go_ret
    exact ⟨ret_bool HR.out.symm, HB1.out⟩
  | false =>
    have HR : Hid (isRep x = (x.kind == 5)) := Lib.hid (by rw [isRep, f1]; rfl)
    go_enter Tryz.func49, Tryz.ntmps49
    go_wp2_with (first
      | ((with_reducible show wpList _ _ _ (⟨some 1, _, _, _, _, _⟩ :: _) _ _); refine wpList_box _ rfl 38 (.tmp 0) rfl (enC x A n c) rfl ?_; intro w1 y1 y2 y3; have HB1 := Lib.hid y2; have q0 := y1.get (j := 2) rfl; clear y1 y2 y3))
    go_ret
    exact ⟨ret_bool HR.out.symm, HB1.out⟩
end
end Go.Proofs.YtgoefpbicohkfaaGreatDoor
/- epoch.readUint, DecodeReply; the decoding of a proposal as a state machine. -/
namespace Go.Proofs.YtgoefpbicohkfaaGreatDoor
open Go Go.RowKit Gf Sha

/-- A number of at most m. -/
def rU (m : Nat) (b : List UInt8) (s : Rd) : Nat × Rd := if m < (rdV 0 uD b s).1 then (0, failR (rdV 0 uD b s).2) else rdV 0 uD b s
theorem rdV_u_last {b : List UInt8} {s : Rd} (h : 0 < (rdV 0 uD b s).1) : (rdV 0 uD b s).2.last = (s.off : Int) := by
  unfold rdV at h ⊢
  split at h
  · rename_i h0
    rw [if_pos h0]
    split at h
    · rename_i x e; rfl
    · exact absurd h (Nat.lt_irrefl 0)
  · exact absurd h (Nat.lt_irrefl 0)
section
set_option maxRecDepth 100000
set_option maxHeartbeats 2000000
theorem readUint_any (m : Nat) (hm : m ≤ 1099511627776) (w : World) (g n c : Nat) (A : Option Addr) (b : List UInt8) (s : Rd) (h : RdS w g A n c b s) :
    Calls Tryz.prog 70 #[.pointer (some ⟨g, 0, none⟩), .int .i64 (m : Int)] w fun e w' => e = .returned (.int .i64 (((rU m b s).1 : Nat) : Int)) ∧ RdS w' g A n c b (rU m b s).2 ∧ Kp (· = g) w w' := by
  have H := Lib.hid h
  have HM := Lib.hid hm
  have f2 : IntKind.u64.wrap (m : Int) = (m : Int) := wrapN rfl (by omega)
  obtain ⟨v, hv⟩ : ∃ v, v = (rdV 0 uD b s).1 := ⟨_, rfl⟩
  have HV := Lib.hid hv
  by_cases hlt : m < v
  · have HE : Hid (rU m b s = (0, failR (rdV 0 uD b s).2)) := Lib.hid (by rw [rU, if_pos (by rw [← hv]; exact hlt)])
    have HLT : Hid (0 < (rdV 0 uD b s).1) := Lib.hid (by rw [← hv]; omega)
    clear hm hv h
    go_enter Tryz.func70, Tryz.ntmps70
    go_wp2_with (first
      | (go_at_call 87; refine (ruint_any w g n c A b s H.out).mono ?_; rintro e w1 ⟨rfl, h1, h2⟩; rw [← HV.out]; have HR1 := Lib.hid h1; have HK1 := Lib.hid h2; clear h1 h2)
      | (go_at_call 88; refine (fail_any w1 g n c A b _ HR1.out (by rw [rdV_u_last HLT.out]; have := H.out.2; omega)).mono ?_; rintro e w2 ⟨rfl, h1, h2⟩; have HR2 := Lib.hid h1; have HK2 := Lib.hid (HK1.out.trans h2); clear h1 h2))
    go_ret
    rw [HE.out]
    exact ⟨rfl, HR2.out, HK2.out⟩
  · have HE : Hid (rU m b s = rdV 0 uD b s) := Lib.hid (by rw [rU, if_neg (by rw [← hv]; exact hlt)])
    have f3 : IntKind.i64.wrap (v : Int) = (v : Int) := IntWalk.i64_in _ (by omega)
    clear hm hv h
    go_enter Tryz.func70, Tryz.ntmps70
    go_wp2_with (first
      | (go_at_call 87; refine (ruint_any w g n c A b s H.out).mono ?_; rintro e w1 ⟨rfl, h1, h2⟩; rw [← HV.out]; have HR1 := Lib.hid h1; have HK1 := Lib.hid h2; clear h1 h2))
    go_ret
    rw [HE.out]
    exact ⟨by rw [← HV.out]; rfl, HR1.out, HK1.out⟩
end
/-- What DecodeReply hands back. -/
def drD (b : List UInt8) : Nat × Rd := rU 11 b ⟨0, 0, 0⟩
def drS (b : List UInt8) : Nat × Rd := rU 1099511627776 b (drD b).2
def drM (x : En) : Option (Nat × Nat) :=
  if isRep x then (if endR x.body.length (drS x.body).2 = 0 ∧ 1 ≤ (drS x.body).1 then some ((drD x.body).1, (drS x.body).1) else none) else none
def drV (x : En) : Array Value := match drM x with | some d => #[.int .i64 (d.1 : Int), .int .i64 (d.2 : Int), .int .i64 0] | none => #[.int .i64 0, .int .i64 0, .int .i64 (if isRep x then 3 else 1)]
theorem drV_not {x : En} (h : isRep x = false) : drV x = #[.int .i64 0, .int .i64 0, .int .i64 1] := by
  rw [drV, show drM x = none from by rw [drM, h]; rfl, h]; rfl
theorem drV_bad {x : En} (h : isRep x = true) (h1 : ¬ (endR x.body.length (drS x.body).2 = 0 ∧ 1 ≤ (drS x.body).1)) : drV x = #[.int .i64 0, .int .i64 0, .int .i64 3] := by
  rw [drV, show drM x = none from by rw [drM, if_pos h, if_neg h1], h]; rfl
theorem drV_ok {x : En} (h : isRep x = true) (h1 : endR x.body.length (drS x.body).2 = 0 ∧ 1 ≤ (drS x.body).1) : drV x = #[.int .i64 ((drD x.body).1 : Int), .int .i64 ((drS x.body).1 : Int), .int .i64 0] := by
  rw [drV, show drM x = some ((drD x.body).1, (drS x.body).1) from by rw [drM, if_pos h, if_pos h1]]
section
set_option maxRecDepth 100000
set_option maxHeartbeats 2000000
end
end Go.Proofs.YtgoefpbicohkfaaGreatDoor
/- epoch.DecodeProposal: its state in memory. -/
namespace Go.Proofs.YtgoefpbicohkfaaGreatDoor
open Go Go.RowKit Gf Sha

theorem RdT.kp {w w' : World} {A : Option Addr} {S : Nat → Prop} (h : RdT w A) (hk : Kp S w w') (hS : ∀ i l, BL w i 5 l → ¬ S i) : RdT w' A := fun a e => let ⟨l, hl⟩ := h a e; ⟨l, hk.bl hl (hS _ l hl)⟩
theorem RdT.kept {w w' : World} {A : Option Addr} (h : RdT w A) (hb : Below w.heap.size w w') : RdT w' A := fun a e => let ⟨l, hl⟩ := h a e; ⟨l, hl.kept hb⟩
theorem FarB.of_ty {w : World} {A : Option Addr} {n : Nat} {S : Nat → Prop} (h : RdT w A) (hS : ∀ i l, BL w i 5 l → ¬ S i) : FarB A n S := fun _ _ _ e => let ⟨l, hl⟩ := h _ e; hS _ l hl
/-- A reader, the proposal under construction, its lists. -/
structure DF (w0 w : World) (g : Nat) (A : Option Addr) (n c : Nat) (b : List UInt8) (s : Rd) (gp : Nat) (dev seq vt : Int) (u1 u2 v1 v2 : Value) (L1 : List Int) (L2 : List (List UInt8)) : Prop where
  rd : RdS w g A n c b s
  ty : RdT w A
  bl : BL w gp 34 [.int .i64 dev, .int .i64 seq, .int .i64 vt, u1, u2]
  o1 : OL rInt 1 3 w0 w v1 L1
  o2 : OL rStr 1 9 w0 w v2 L2
  low : Below w0.heap.size w0 w
  hg : w0.heap.size ≤ g
  hp : w0.heap.size ≤ gp
section
variable {w0 w w' : World} {g : Nat} {A : Option Addr} {n c : Nat} {b : List UInt8} {s s' : Rd} {gp : Nat} {dev seq vt : Int} {u1 u2 v1 v2 : Value} {L1 : List Int} {L2 : List (List UInt8)}
theorem low_kp {S : Nat → Prop} (h : Below w0.heap.size w0 w) (hk : Kp S w w') (hS : ∀ i, i < w0.heap.size → ¬ S i) : Below w0.heap.size w0 w' :=
  ((Kp.of_below (S := fun _ => False) h).after hk (fun i hi e => hS i hi e)).below (Nat.le_refl _) (fun _ h => h.elim)
theorem DF.kept (h : DF w0 w g A n c b s gp dev seq vt u1 u2 v1 v2 L1 L2) (hb : Below w.heap.size w w') : DF w0 w' g A n c b s gp dev seq vt u1 u2 v1 v2 L1 L2 :=
  ⟨h.rd.kept hb, h.ty.kept hb, h.bl.kept hb, h.o1.kept hb, h.o2.kept hb, below_thenB h.low h.low.size hb, h.hg, h.hp⟩
/-- A value has been read. -/
theorem DF.rdn (h : DF w0 w g A n c b s gp dev seq vt u1 u2 v1 v2 L1 L2) (hr : RdS w' g A n c b s') (hk : Kp (· = g) w w') : DF w0 w' g A n c b s' gp dev seq vt u1 u2 v1 v2 L1 L2 := by
  have hg := h.rd.1.1
  obtain ⟨_, r1⟩ := h.o1.row
  obtain ⟨_, r2⟩ := h.o2.row
  exact ⟨hr, h.ty.kp hk (fun i l hl => hl.ne hg (by decide)), hk.bl h.bl (h.bl.ne hg (by decide)), h.o1.kp hk (r1.ne_bl hg (by decide)), h.o2.kp hk (r2.ne_bl hg (by decide)),
    low_kp h.low hk (fun i hi e => by have := h.hg; omega), h.hg, h.hp⟩
theorem RdS.other {S : Nat → Prop} (h : RdS w g A n c b s) (ht : RdT w A) (hk : Kp S w w') (hS : ∀ i t l, BL w i t l → t = 5 ∨ t = 136 → ¬ S i) : RdS w' g A n c b s :=
  ⟨⟨hk.bl h.1.1 (hS _ _ _ h.1.1 (.inr rfl)), h.1.2.1.kpf hk (FarB.of_ty ht (fun i l hl => hS i _ l hl (.inl rfl))), h.1.2.2⟩, h.2⟩
/-- The proposal's cells are written. -/
theorem DF.put (h : DF w0 w g A n c b s gp dev seq vt u1 u2 v1 v2 L1 L2) {dev' seq' vt' : Int} {u1' u2' : Value} (hb : BL w' gp 34 [.int .i64 dev', .int .i64 seq', .int .i64 vt', u1', u2']) (hk : Kp (· = gp) w w') : DF w0 w' g A n c b s gp dev' seq' vt' u1' u2' v1 v2 L1 L2 := by
  obtain ⟨_, r1⟩ := h.o1.row
  obtain ⟨_, r2⟩ := h.o2.row
  exact ⟨h.rd.other h.ty hk (fun i t l hl ht => hl.ne h.bl (by rcases ht with rfl | rfl <;> decide)), h.ty.kp hk (fun i l hl => hl.ne h.bl (by decide)), hb, h.o1.kp hk (r1.ne_bl h.bl (by decide)), h.o2.kp hk (r2.ne_bl h.bl (by decide)),
    low_kp h.low hk (fun i hi e => by have := h.hp; omega), h.hg, h.hp⟩
theorem own_ty {te : TypeId} {m k : Nat} {v : Value} {l : List Value} (h : RW w te m v k l) {i : Nat} {t : TypeId} {x : List Value} (hx : BL w i t x) (ht : t ≠ te) : ¬ v.ownBlock = some i := fun e => h.ne_bl hx ht i e rfl
/-- The list of devices has grown. -/
theorem DF.app1 (h : DF w0 w g A n c b s gp dev seq vt u1 u2 v1 v2 L1 L2) {k : Nat} {l xs : List Value} {v1' : Value} {L1' : List Int} (hrow : RW w 3 1 v1 k l) (ap : AppR w 3 1 v1 k 1 l xs v1' w') (ho : OL rInt 1 3 w0 w' v1' L1') : DF w0 w' g A n c b s gp dev seq vt u1 u2 v1' v2 L1' L2 := by
  obtain ⟨_, r2⟩ := h.o2.row
  exact ⟨h.rd.other h.ty ap.kp (fun i t l hl ht => own_ty hrow hl (by rcases ht with rfl | rfl <;> decide)), h.ty.kp ap.kp (fun i l hl => own_ty hrow hl (by decide)), ap.kp.bl h.bl (own_ty hrow h.bl (by decide)), ho,
    h.o2.kp ap.kp (fun i e2 e1 => by
      obtain ⟨_, hl⟩ := r2.ty e2
      exact own_ty hrow hl (by decide) e1),
    low_kp h.low ap.kp (fun i hi e => by have := h.o1.own i e; omega), h.hg, h.hp⟩
/-- The list of stripes has grown. -/
theorem DF.app2 (h : DF w0 w g A n c b s gp dev seq vt u1 u2 v1 v2 L1 L2) {k : Nat} {l xs : List Value} {v2' : Value} {L2' : List (List UInt8)} (hrow : RW w 9 1 v2 k l) (ap : AppR w 9 1 v2 k 1 l xs v2' w') (ho : OL rStr 1 9 w0 w' v2' L2') : DF w0 w' g A n c b s gp dev seq vt u1 u2 v1 v2' L1 L2' := by
  obtain ⟨_, r1⟩ := h.o1.row
  exact ⟨h.rd.other h.ty ap.kp (fun i t l hl ht => own_ty hrow hl (by rcases ht with rfl | rfl <;> decide)), h.ty.kp ap.kp (fun i l hl => own_ty hrow hl (by decide)), ap.kp.bl h.bl (own_ty hrow h.bl (by decide)),
    h.o1.kp ap.kp (fun i e1 e2 => by
      obtain ⟨_, hl⟩ := r1.ty e1
      exact own_ty hrow hl (by decide) e2), ho,
    low_kp h.low ap.kp (fun i hi e => by have := h.o2.own i e; omega), h.hg, h.hp⟩
end
/-- k numbers, k sums are read. -/
def stW (b : List UInt8) (s : Rd) : Nat → List Int × Rd
  | 0 => ([], s)
  | k + 1 => ((stW b s k).1 ++ [(((rU 11 b (stW b s k).2).1 : Nat) : Int)], (rU 11 b (stW b s k).2).2)
def stS (b : List UInt8) (s : Rd) : Nat → List (List UInt8) × Rd
  | 0 => ([], s)
  | k + 1 => ((stS b s k).1 ++ [(rdV [] sD b (stS b s k).2).1], (rdV [] sD b (stS b s k).2).2)
theorem stW_len (b : List UInt8) (s : Rd) : ∀ k, (stW b s k).1.length = k
  | 0 => rfl
  | k + 1 => by rw [stW, List.length_append, stW_len b s k]; rfl
theorem stS_len (b : List UInt8) (s : Rd) : ∀ k, (stS b s k).1.length = k
  | 0 => rfl
  | k + 1 => by rw [stS, List.length_append, stS_len b s k]; rfl
def dV (b : List UInt8) : Nat × Rd := rU 11 b ⟨0, 0, 0⟩
def dN (b : List UInt8) : Nat × Rd := rdV 0 (cD 3) b (dV b).2
def dW (b : List UInt8) : List Int × Rd := stW b (dN b).2 (dN b).1
def dM (b : List UInt8) : Nat × Rd := rdV 0 (cD 1024) b (dW b).2
def dS (b : List UInt8) : List (List UInt8) × Rd := stS b (dM b).2 (dM b).1
def decP (x : En) : Pp := ⟨x.dev, x.seq, ((dV x.body).1 : Int), (dW x.body).1, (dS x.body).1⟩
/-- The proposal of an entry. -/
def decM (x : En) : Option Pp := if x.kind = 3 then (if endR x.body.length (dS x.body).2 = 0 ∧ validB (decP x) = true then some (decP x) else none) else none
theorem rU_le (m : Nat) (b : List UInt8) (s : Rd) : (rU m b s).1 ≤ m := by
  unfold rU
  split
  · exact Nat.zero_le _
  · omega
theorem cD_le {m : Nat} (b : List UInt8) (s : Rd) : (rdV 0 (cD m) b s).1 ≤ m := by
  unfold rdV
  split
  · split
    · rename_i x e
      unfold cD at e
      split at e
      · split at e
        · cases e; assumption
        · cases e
      · cases e
    · exact Nat.zero_le _
  · exact Nat.zero_le _
theorem sD_le (b : List UInt8) (s : Rd) : (rdV [] sD b s).1.length ≤ 32 := by
  unfold rdV
  split
  · split
    · rename_i x e
      unfold sD at e
      split at e
      · cases e; rw [List.length_take]; omega
      · cases e
    · exact Nat.zero_le _
  · exact Nat.zero_le _
end Go.Proofs.YtgoefpbicohkfaaGreatDoor
