/- The town's log. -/
import Derived.Test.YtfonbliomokffaaGreatZhm
namespace Go.Proofs.YtfonbliomokffaaGreat
open Go Go.RowKit Gf Sha

section
variable {P : Program} {w : World} {o : Oper} {a : Act}
theorem exec_buildT {t : TypeId} {parts : Array (Nat × Operand)} (hop : o.op = .build t parts) {ps : Array (Nat × Value)} (hps : (parts.map fun (i, x) => (i, a.eval x)) = ps) {v : Value} (hr : (Instr.build t ps).run P w = .ok v w) : (execOp a.eval o).run P w = .ok (.value v) w := by
 unfold execOp
 simp only [hop, hps]
 simp [hr, Result.andThen]
end
theorem bldEn4 (x : En) (A : Option Addr) (n c : Nat) (h1 : x.day = 0) (h2 : x.prev = []) (w : World) : (Instr.build 33 #[(0, .int .i64 x.dev), (1, .int .i64 x.seq), (2, .int .i64 x.kind), (4, .slice A n c)]).run Tryz.prog w = .ok (.agg (enC x A n c).toArray) w := by
 obtain ⟨d, s, k, y, b, p⟩ := x
 cases h1
 cases h2
 kernel_rfl
/-- A town while an entry is put behind a log: the log's new slice is not yet stored. -/
structure TA (w0 w : World) (g : Nat) (T : Tn) (v : Nat → Value) (u : Nat) (z : Value) (L : List En) : Prop where
 bl : BL w g 53 (tCs T v)
 lg : ∀ d, d < 3 → d ≠ u → OT rEnT 6 33 w0.heap.size w (v d) (T.lg d)
 nw : OT rEnT 6 33 w0.heap.size w z L
 ne : ∀ d, d < 3 → ∀ d', d' < 3 → d ≠ d' → ∀ b, (v d).ownBlock = some b → ¬ (v d').ownBlock = some b
 nz : ∀ d, d < 3 → d ≠ u → ∀ b, z.ownBlock = some b → ¬ (v d).ownBlock = some b
 low : Below w0.heap.size w0 w
 hg : w0.heap.size ≤ g
theorem OT.kpE {w0 w w' : World} {z : Value} {L : List En} {S : Nat → Prop} (h : OT rEnT 6 33 w0.heap.size w z L) (hk : Kp S w w') (hn : ∀ b, z.ownBlock = some b → ¬ S b) (hS : ∀ i l, BL w i 5 l → ¬ S i) : OT rEnT 6 33 w0.heap.size w' z L :=
 h.kp hk hn (fun _ _ hr => hr.kp hk hS)
theorem TM.app {w0 w w' : World} {g : Nat} {T : Tn} {v : Nat → Value} (h : TM w0 w g T v) {u : Nat} (hu : u < 3) {css : List (List Value)} (h1 : css.length = (T.lg u).length) (h2 : ∀ cs ∈ css, cs.length = 6) (h3 : ∀ k (h : k < (T.lg u).length) (h' : k < css.length), rEnT w css[k] (T.lg u)[k]) (h4 : RW w 33 6 (v u) (T.lg u).length css.flatten)
  {x : En} {xs : List Value} (hxs : xs.length = 6) (hx : rEnT w xs x) {z : Value} (ap : AppR w 33 6 (v u) (T.lg u).length 1 css.flatten xs z w') : TA w0 w' g T v u z (T.lg u ++ [x]) := by
 have h5 := (h.lg u hu).own
 have hS : ∀ i l, BL w i 5 l → ¬ (v u).ownBlock = some i := fun i l hl => own_ty h4 hl (by decide)
 refine ⟨ap.kp.bl h.bl (own_ty h4 h.bl (by decide)), fun d hd hne => (h.lg d hd).kpE ap.kp (fun b hb => h.ne d hd u hu hne b hb) hS, ?_, h.ne, fun d hd hne b hb e => ?_, low_kp h.low ap.kp (fun i hi e => by have := h5 i e; omega), h.hg⟩
 ·
  refine ⟨css ++ [xs], by simp [h1], fun cs hcs => ?_, fun k hk hk' => ?_, ?_, fun b hb => (ap.own b hb).elim (h5 b) (fun h9 => Nat.le_trans h.low.size h9)⟩
  ·
   rcases List.mem_append.1 hcs with h9 | h9
   ·
    exact h2 cs h9
   ·
    rw [List.mem_singleton.1 h9]; exact hxs
  ·
   by_cases hlt : k < (T.lg u).length
   ·
    rw [List.getElem_append_left (by omega), List.getElem_append_left hlt]
    exact (h3 k hlt (by omega)).kp ap.kp hS
   ·
    have e : k = (T.lg u).length := by rw [List.length_append, List.length_singleton] at hk; omega
    subst e
    rw [List.getElem_append_right (by omega), List.getElem_append_right (by omega)]
    simp only [h1, Nat.sub_self, List.getElem_cons_zero]
    exact hx.kp ap.kp hS
  ·
   have := ap.row
   rw [List.flatten_append, List.flatten_cons, List.flatten_nil, List.append_nil, List.length_append]
   exact this
 ·
  rcases ap.own b hb with h9 | h9
  ·
   exact h.ne u hu d hd (fun e2 => hne e2.symm) b h9 e
  ·
   obtain ⟨_, _, _, _, r4, _⟩ := h.lg d hd
   have := r4.lt e
   omega
theorem TA.done {w0 w w' : World} {g : Nat} {T : Tn} {v : Nat → Value} {u : Nat} {z : Value} {L : List En} (h : TA w0 w g T v u z L) (hb : BL w' g 53 (tCs { T with lg := up T.lg u L } (up v u z))) (hk : Kp (· = g) w w') : TM w0 w' g { T with lg := up T.lg u L } (up v u z) := by
 have hS : ∀ i l, BL w i 5 l → ¬ i = g := fun i l hl => hl.ne h.bl (by decide)
 refine ⟨hb, fun d hd => ?_, fun d hd d' hd' hne b => ?_, low_kp h.low hk (fun i hi e => by have := h.hg; omega), h.hg⟩
 ·
  show OT rEnT 6 _ _ w' (up v u z d) (up T.lg u L d)
  by_cases e : d = u
  ·
   subst e
   rw [up_same, up_same]
   obtain ⟨_, _, _, _, r4, _⟩ := h.nw
   exact h.nw.kpE hk (r4.ne_bl h.bl (by decide)) hS
  ·
   rw [up_ne _ _ e, up_ne _ _ e]
   have h9 := h.lg d hd e
   obtain ⟨_, _, _, _, r4, _⟩ := h9
   exact (h.lg d hd e).kpE hk (r4.ne_bl h.bl (by decide)) hS
 ·
  by_cases e : d = u
  ·
   subst e
   rw [up_same, up_ne _ _ (fun e2 => hne e2.symm)]
   exact h.nz d' hd' (fun e2 => hne e2.symm) b
  ·
   rw [up_ne _ _ e]
   by_cases e' : d' = u
   ·
    subst e'
    rw [up_same]
    exact fun h1 h2 => h.nz d hd e b h2 h1
   ·
    rw [up_ne _ _ e']
    exact h.ne d hd d' hd' hne b
/-- Blocks of other types are not turned by a log. -/
theorem TM.noS {w0 w : World} {g : Nat} {T : Tn} {v : Nat → Value} (h : TM w0 w g T v) {u : Nat} (hu : u < 3) {i : Nat} {t : TypeId} {l : List Value} (hl : BL w i t l) (h1 : t ≠ 53) (h2 : t ≠ 33) : ¬ (i = g ∨ (v u).ownBlock = some i) := by
 rintro (e | e)
 ·
  exact hl.ne h.bl h1 e
 ·
  obtain ⟨_, _, _, _, r4, _⟩ := h.lg u hu
  exact own_ty r4 hl h2 e
section
set_option maxRecDepth 100000
set_option maxHeartbeats 2000000
theorem log_any (w0 : World) (g : Nat) (T : Tn) (v : Nat → Value) (u : Nat) (kd : Int) (A : Option Addr) (n c : Nat) (b : List UInt8) (w : World) (h : TM w0 w g T v) (hi : InvL T) (hl : T.all.length ≤ 10000) (hu : u < 3) (hk : wfI kd) (hb : BS w A n c b) (ht : ∀ a, A = some a → ∃ l, BL w a.block 5 l) :
  Calls Tryz.prog 54 #[.pointer (some ⟨g, 0, none⟩), .int .i64 (u : Int), .int .i64 kd, .slice A n c] w fun e w' => e = .returned (.tuple #[]) ∧ (∃ v', TM w0 w' g (T.log u kd b) v') ∧ Kp (fun i => i = g ∨ (v u).ownBlock = some i) w w' := by
 have H := Lib.hid h
 have HBS := Lib.hid hb
 have HTY := Lib.hid ht
 have HKD := Lib.hid hk
 obtain ⟨m, hm⟩ : ∃ m, m = (T.lg u).length := ⟨_, rfl⟩
 have hml : m ≤ 10000 := by rw [hm]; exact Nat.le_trans (lg_len hu) hl
 have HVM : Hid (T.vw (3 * u + u) = m) := Lib.hid (by rw [show 3 * u + u = 4 * u by omega, hi.own u hu, hm])
 have HM : Hid ((T.lg u).length = m) := Lib.hid hm.symm
 obtain ⟨Au, cu, hv, _⟩ := h.ls hu (by rw [← hm]; omega)
 rw [← hm] at hv
 have HV := Lib.hid hv
 have hu' : (u : Int) < 3 := by omega
 have hw1 : IntKind.i64.wrap ((m : Int) + 1) = (m : Int) + 1 := IntWalk.i64_in _ (by omega)
 have HE : Hid ((T.newE u kd b).dev = (u : Int) ∧ (T.newE u kd b).seq = (m : Int) + 1) := Lib.hid ⟨rfl, by rw [hm]; rfl⟩
 clear h hi hl hb ht hm hk hv
 have q0 : w.drew.cell? ⟨g, u, none⟩ = some (.slice Au m cu) := by rw [← HV.out]; exact H.out.drew.cl hu
 go_enter Tryz.func54, Tryz.ntmps54
 go_wp2_with fail
 refine Text.wp_region_text (fun w' => w'.cell? ⟨g, u, none⟩ = some (.slice Au m cu)) [(0, 4), (1, 4), (2, 4), (3, 4), (4, 4), (5, 4), (6, 4), (8, 4), (9, 4), (10, 4), (11, 4), (12, 4), (13, 4), (17, 4), (18, 4), (22, 4), (23, 4), (7, 0), (14, 1), (15, 4), (16, 4), (19, 0), (20, 2), (21, 2), (24, 4), (25, 3)] (by kernel_rfl) (by kernel_rfl) (fun _ _ _ _ _ h => h) (q0) ?_
 iterate 17 (refine Text.purek rfl rfl (fun K hK => ⟨_, fun w' => by go_simp <;> rfl, ?_⟩); go_simp; refine hK _ ?_; clear hK K)
 (refine Text.heldk rfl rfl (fun K hK => ⟨_, fun w' hw' => by go_simp <;> rfl, ?_⟩); go_simp; refine hK _ ?_; clear hK K)
 (refine Text.readk rfl rfl (fun K hK => ⟨_, by go_simp <;> rfl, ?_⟩); go_simp; refine hK _ ?_; clear hK K)
 iterate 2 (refine Text.purek rfl rfl (fun K hK => ⟨_, fun w' => by go_simp <;> rfl, ?_⟩); go_simp; refine hK _ ?_; clear hK K)
 refine Text.heldk rfl rfl (fun K hK => ?_)
 refine ⟨_, fun w' hw' => exec_buildT rfl (ps := #[(0, .int .i64 (T.newE u kd b).dev), (1, .int .i64 (T.newE u kd b).seq), (2, .int .i64 (T.newE u kd b).kind), (4, .slice A n c)]) (by rw [HE.out.1, HE.out.2, List.map_toArray]; rfl) (bldEn4 (T.newE u kd b) A n c rfl rfl w'), ?_⟩
 go_simp
 refine hK _ ?_
 clear hK K
 refine Text.eff rfl rfl (fun K hK => ?_)
 refine wp_bslice 22 33 1 _ rfl #[(0, .agg (enC (T.newE u kd b) A n c).toArray)] (by rw [List.map_toArray]; rfl) (enC (T.newE u kd b) A n c) (bslEn1 _ _ _ _ _) ?_
 intro w2 y1 y2 y3
 have HB2 : Hid (Below w.heap.size w w2) := Lib.hid (below_then (Below.refl _ _).drew y2)
 have HT2 := Lib.hid (H.out.kept HB2.out)
 have HG2 := Lib.hid y1
 clear y1 y2 y3
 refine hK _ _ (by have := HT2.out.cl hu; rwa [HV.out] at this) ?_
 clear hK K
 refine Text.eff rfl rfl (fun K hK => ?_)
 obtain ⟨iS, i1, i2, i3, i4⟩ := info_some infoEn
 obtain ⟨css, hC1, hC2, hC3, hC4, hC5⟩ := HT2.out.lg u hu
 refine wp_appRW _ (.tmp 15) (.tmp 28) 22 33 6 iS _ rfl Tryz.underlying22 i1 i2 i3 rfl (v u) (T.lg u).length _ HV.out.symm hC4 w.heap.size (enC (T.newE u kd b) A n c) rfl HG2.out rfl (one_en _ _ _ _) (by rw [i4, HM.out]; omega) (by rw [HM.out]; omega) ?_
 intro z w3 ap
 have HA3 := Lib.hid (HT2.out.app hu hC1 hC2 hC3 hC4 rfl ⟨⟨A, n, c, rfl, HBS.out.kept HB2.out, by show wfI (u : Int); exact wf_small (by omega) (by omega), by rw [HE.out.2]; exact wf_small (by omega) (by omega), HKD.out, wfI0, Nat.zero_le _⟩, fun A' n' c' hm a e => by
  have h9 : Value.slice A' n' c' = Value.slice A n c := by simpa using hm
  cases h9
  obtain ⟨l, hl⟩ := HTY.out a e
  exact ⟨l, hl.kept HB2.out⟩⟩ ap)
 have HK3 : Hid (Kp (fun i => i = g ∨ (v u).ownBlock = some i) w w3) := Lib.hid ((Kp.of_below HB2.out).after ap.kp (fun i _ e => .inr e))
 obtain ⟨A9, c9, e9, _⟩ := ap.row.form
 subst e9
 refine hK _ _ ?_ ?_
 ·
  have := HA3.out.bl.get (tCs_get T v (show u < 50 by omega))
  unfold tC at this
  rw [if_pos hu, HV.out] at this
  exact this
 clear hK K i1 i2 i3 i4 hC1 hC2 hC3 hC4 hC5 ap
 (refine Text.purek rfl rfl (fun K hK => ⟨_, fun w' => by go_simp <;> rfl, ?_⟩); go_simp; refine hK _ ?_; clear hK K)
 refine Text.last rfl rfl (fun K hK => ?_)
 refine wp_store1 _ 22 (.tmp 32) (.tmp 29) rfl (sz1 _ (by kernel_rfl) _) g u _ _ (.slice A9 ((T.lg u).length + 1) c9) rfl rfl HA3.out.bl rfl rfl (by rw [tCs_len]; omega) ?_
 intro w4 y1 y2 y3
 rw [set_lg (L := T.lg u ++ [T.newE u kd b]) hu] at y1
 have HT4 := Lib.hid (HA3.out.done y1 y2)
 have HK4 : Hid (Kp (fun i => i = g ∨ (v u).ownBlock = some i) w w4) := Lib.hid (HK3.out.after y2 (fun i _ e => .inl e))
 clear y1 y2 y3
 refine hK _ _ ?_
 clear hK K q0
 refine Text.done ?_
 have q1 := HT4.out.drew.cv hu hu
 rw [show ({ T with lg := up T.lg u (T.lg u ++ [T.newE u kd b]) } : Tn).vw (3 * u + u) = m from HVM.out] at q1
 go_wp2_with fail
 refine Text.wp_region_text (fun _ => True) [(0, 4), (1, 4), (2, 4), (3, 4), (4, 4), (5, 4), (6, 4), (9, 4), (10, 4), (11, 4), (7, 1), (8, 4), (12, 4), (13, 3)] (by kernel_rfl) (by kernel_rfl) (fun _ _ _ _ _ h => h) (trivial) ?_
 iterate 10 (refine Text.purek rfl rfl (fun K hK => ⟨_, fun w' => by go_simp <;> rfl, ?_⟩); go_simp; refine hK _ ?_; clear hK K)
 (refine Text.readk rfl rfl (fun K hK => ⟨_, by go_simp <;> rfl, ?_⟩); go_simp; refine hK _ ?_; clear hK K)
 iterate 2 (refine Text.purek rfl rfl (fun K hK => ⟨_, fun w' => by go_simp <;> rfl, ?_⟩); go_simp; refine hK _ ?_; clear hK K)
 refine Text.last rfl rfl (fun K hK => ?_)
 refine wp_store1 _ 3 (.tmp 45) (.tmp 41) rfl (sz1 _ (by kernel_rfl) _) g (3 + u * 3 + u) _ _ (.int .i64 ((m + 1 : Nat) : Int)) rfl (by go_simp) HT4.out.drew.bl rfl rfl (by rw [tCs_len]; omega) ?_
 intro w5 y1 y2 y3
 rw [set_vw hu hu] at y1
 have HT5 := Lib.hid (HT4.out.drew.put y1 y2 rfl)
 have HK5 : Hid (Kp (fun i => i = g ∨ (v u).ownBlock = some i) w w5) := Lib.hid ((Kp.drew HK4.out).after y2 (fun i _ e => .inl e))
 clear y1 y2 y3
 refine hK _ _ ?_
 clear hK K q1
 refine Text.done ?_
 go_wp2_with fail
 go_end0
 refine ⟨rfl, ⟨up v u (.slice A9 ((T.lg u).length + 1) c9), ?_⟩, HK5.out⟩
 have h9 := HT5.out
 have e : ({ ({ T with lg := up T.lg u (T.lg u ++ [T.newE u kd b]) } : Tn) with vw := up T.vw (3 * u + u) (m + 1) } : Tn) = T.log u kd b := by
  unfold Tn.log
  rw [← HVM.out, show 3 * u + u = 4 * u by omega]
 rw [← e]
 exact h9
end
end Go.Proofs.YtfonbliomokffaaGreat
