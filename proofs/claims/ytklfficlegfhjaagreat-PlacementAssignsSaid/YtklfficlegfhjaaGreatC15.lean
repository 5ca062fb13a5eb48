/- Several texts in one: Je, Jf, Jg. -/
import Derived.Test.YtklfficlegfhjaaGreatC14
/- A region that draws its order, whose effects are new blocks alone: each operation told once. -/
namespace Go.Proofs.YtklfficlegfhjaaGreat
open Go Go.RowKit Go.Shelf Go.WideMaps Go.ChangeMaps Gf Sha

namespace Text
/-- Every operation writes a slot of its own and waits for earlier ones alone. -/
def freeB (ops : Array Oper) (d : List Nat) : Bool :=
 decide (d.length = ops.size) && decide d.Nodup && (List.range ops.size).all fun i => match ops[i]? with
  | some o => o.dst == d[i]? && o.guard.isNone && (preds ops i).all (fun p => decide (p < i))
  | none => false
structure FrI (ops : Array Oper) (d : List Nat) (a : Act) (W : World) (V : Nat → Value → World → Prop) (fr : Nat → Bool) (listed : Array Bool) (b : Act) (w : World) : Prop where
 size : b.tmps.size = a.tmps.size
 defers : b.defers = a.defers
 below : Below W.heap.size W w
 out : ∀ t, t ∉ d → b.tmps.getD t undef = a.tmps.getD t undef
 v : ∀ j t, listed.getD j false = true → d[j]? = some t → V j (b.tmps.getD t undef) w
 fr : ∀ j k t u, listed.getD j false = true → listed.getD k false = true → fr j = true → fr k = true → j ≠ k → d[j]? = some t → d[k]? = some u → ∀ x, (b.tmps.getD t undef).ownBlock = some x → (b.tmps.getD u undef).ownBlock ≠ some x
theorem getD_set (l : Array Bool) (i j : Nat) (hi : i < l.size) : (l.setIfInBounds i true).getD j false = if j = i then true else l.getD j false := by
 by_cases h : j = i
 ·
  subst h; simp [hi]
 ·
  rw [if_neg h]
  simp only [Array.getD_eq_getD_getElem?]
  rw [Array.getElem?_setIfInBounds_ne (fun e => h e.symm)]
theorem tmps_set (l : Array Value) (i j : Nat) (v : Value) (hi : i < l.size) : (l.setIfInBounds i v).getD j undef = if j = i then v else l.getD j undef := by
 by_cases h : j = i
 ·
  subst h; simp [hi]
 ·
  rw [if_neg h]
  simp only [Array.getD_eq_getD_getElem?]
  rw [Array.getElem?_setIfInBounds_ne (fun e => h e.symm)]
theorem nodup_get {d : List Nat} (hn : d.Nodup) {i j t : Nat} (h1 : d[i]? = some t) (h2 : d[j]? = some t) : i = j := by
 obtain ⟨hi, e1⟩ := List.getElem?_eq_some_iff.1 h1
 obtain ⟨hj, e2⟩ := List.getElem?_eq_some_iff.1 h2
 exact (List.getElem_inj hn).1 (e1.trans e2.symm)
theorem wp_region_free {P : Program} {ops : Array Oper} {Q : Exit → Act → World → Prop} {id : Nat} {a : Act} {w : World} (d : List Nat) (V : Nat → Value → World → Prop) (fr : Nat → Bool) (hm : P.follows .mixedOrders = true) (hB : freeB ops d = true) (hda : ∀ t ∈ d, t < a.tmps.size)
  (hst : ∀ j v w w', V j v w → Below w.heap.size w w' → V j v w') (hlt : ∀ j v w b, fr j = true → V j v w → v.ownBlock = some b → b < w.heap.size)
  (hstep : ∀ (i : Nat) (o : Oper) (b : Act) (w' : World), ops[i]? = some o → Below w.heap.size w.drew w' → b.tmps.size = a.tmps.size → (∀ t, t ∉ d → b.tmps.getD t undef = a.tmps.getD t undef) → (∀ p t, p ∈ preds ops i → d[p]? = some t → V p (b.tmps.getD t undef) w') →
   (∀ p q t u, p ∈ preds ops i → q ∈ preds ops i → fr p = true → fr q = true → p ≠ q → d[p]? = some t → d[q]? = some u → ∀ x, (b.tmps.getD t undef).ownBlock = some x → (b.tmps.getD u undef).ownBlock ≠ some x) →
   o.wp P b w' (fun b' w'' => ∃ v, b' = b.put o.dst v ∧ V i v w'' ∧ Below w'.heap.size w' w'' ∧ (fr i = true → ∀ x, v.ownBlock = some x → w'.heap.size ≤ x)) NoQ)
  (hend : ∀ (b : Act) (w' : World), Below w.heap.size w.drew w' → b.tmps.size = a.tmps.size → b.defers = a.defers → (∀ t, t ∉ d → b.tmps.getD t undef = a.tmps.getD t undef) → (∀ j t, d[j]? = some t → V j (b.tmps.getD t undef) w') →
   (∀ j k t u, fr j = true → fr k = true → j ≠ k → d[j]? = some t → d[k]? = some u → ∀ x, (b.tmps.getD t undef).ownBlock = some x → (b.tmps.getD u undef).ownBlock ≠ some x) → Q .normal b w') : (Code.region id ops true).wp P Q a w := by
 refine wp_region_any hm ?_
 unfold freeB at hB
 simp only [Bool.and_eq_true, decide_eq_true_eq, List.all_eq_true, List.mem_range] at hB
 obtain ⟨⟨hdl, hdn⟩, hall⟩ := hB
 have hop : ∀ i o, ops[i]? = some o → o.dst = d[i]? ∧ o.guard = none ∧ ∀ p ∈ preds ops i, p < i := fun i o ho => by
  have h1 := hall i (Array.getElem?_eq_some_iff.1 ho).1
  rw [ho] at h1
  simp only [Bool.and_eq_true, beq_iff_eq, Option.isNone_iff_eq_none, List.all_eq_true, decide_eq_true_eq] at h1
  exact ⟨h1.1.1, h1.1.2, h1.2⟩
 have key : ∀ (n : Nat) (L : List Nat) (listed : Array Bool) (b : Act) (w' : World), L.length = n → L.Nodup → listed.size = ops.size → (∀ i, i ∈ L ↔ i < ops.size ∧ listed.getD i false = false) → FrI ops d a w.drew V fr listed b w' → wpAny P .any ops Q n listed b w' := by
  intro n
  have hall' : ∀ (listed : Array Bool) (b : Act) (w' : World), (∀ i, i < ops.size → listed.getD i false = true) → FrI ops d a w.drew V fr listed b w' → Q .normal b w' := fun listed b w' hl hI =>
   hend b w' hI.below hI.size hI.defers hI.out (fun j t hj => hI.v j t (hl j (by rw [← hdl]; exact (List.getElem?_eq_some_iff.1 hj).1)) hj)
    (fun j k t u h1 h2 h3 h4 h5 => hI.fr j k t u (hl j (by rw [← hdl]; exact (List.getElem?_eq_some_iff.1 h4).1)) (hl k (by rw [← hdl]; exact (List.getElem?_eq_some_iff.1 h5).1)) h1 h2 h3 h4 h5)
  have hready : ∀ (listed : Array Bool), listed.size = ops.size → Region.ready .any ops listed = [] → ∀ i, i < ops.size → listed.getD i false = true := fun listed hs hr i => by
   induction i using Nat.strongRecOn with
   | ind i ih =>
    intro hi
    cases hl : listed.getD i false with
    | true => rfl
    | false =>
     exfalso
     have : i ∈ Region.ready .any ops listed := by
      refine mem_ready.2 ⟨by rw [getD_true_false (by rw [hs]; exact hi)]; exact hl, _, Array.getElem?_eq_getElem hi, fun e he hb => ?_⟩
      have hp := mem_preds (Array.getElem?_eq_getElem hi) he hb
      have hlt := (hop i _ (Array.getElem?_eq_getElem hi)).2.2 _ hp
      exact ih _ hlt (by omega)
     rw [hr] at this; cases this
  induction n with
  | zero =>
   intro L listed b w' hn _ hs hmem hI
   have hL : L = [] := List.eq_nil_of_length_eq_zero hn
   have hl : ∀ i, i < ops.size → listed.getD i false = true := fun i hi => by
    cases h : listed.getD i false with
    | true => rfl
    | false => have := (hmem i).2 ⟨hi, h⟩; rw [hL] at this; cases this
   refine ⟨?_, hall' listed b w' hl hI⟩
   cases hrd : Region.ready .any ops listed with
   | nil => rfl
   | cons j js =>
    have hj : j ∈ Region.ready .any ops listed := by rw [hrd]; simp
    obtain ⟨h1, o, ho, _⟩ := mem_ready.1 hj
    have hjl := (Array.getElem?_eq_some_iff.1 ho).1
    rw [getD_true_false (by rw [hs]; exact hjl), hl j hjl] at h1
    cases h1
  | succ n ih =>
   intro L listed b w' hn hnd hs hmem hI
   refine ⟨fun h0 => hall' listed b w' (hready listed hs h0) hI, fun i hi => ?_⟩
   obtain ⟨h1, oi, hoi, hdep⟩ := mem_ready.1 hi
   have hil := (Array.getElem?_eq_some_iff.1 hoi).1
   rw [getD_true_false (by rw [hs]; exact hil)] at h1
   have hm' := (hmem i).2 ⟨hil, h1⟩
   obtain ⟨hd1, hg1, _⟩ := hop i oi hoi
   obtain ⟨t, ht⟩ : ∃ t, d[i]? = some t := ⟨_, List.getElem?_eq_getElem (by omega)⟩
   have hta : t < b.tmps.size := by rw [hI.size]; exact hda t (List.mem_of_getElem? ht)
   have hs1 := hstep i oi b w' hoi hI.below hI.size hI.out (fun p u hp hu => by
    obtain ⟨o', e, h2, h3, h4, h5⟩ := of_preds hp
    rw [hoi] at h2; cases h2
    exact hI.v p u (h5 ▸ hdep e h3 h4) hu) (fun p q u u' hp hq h1 h2 h3 hu hu' => by
    obtain ⟨o', e, g2, g3, g4, g5⟩ := of_preds hp
    obtain ⟨o'', e', k2, k3, k4, k5⟩ := of_preds hq
    rw [hoi] at g2 k2; cases g2; cases k2
    exact hI.fr p q u u' (g5 ▸ hdep e g3 g4) (k5 ▸ hdep e' k3 k4) h1 h2 h3 hu hu')
   unfold wpOp
   simp only [hoi]
   rw [if_pos (by simp [Region.wanted, hg1])]
   refine .inl (wp_of_noQ (Oper.wp_mono ?_ hs1))
   rintro b' w'' ⟨v, rfl, hv, hbl, hfr⟩
   rw [hd1, ht]
   refine ih (L.erase i) _ _ _ (by rw [List.length_erase_of_mem hm', hn]; rfl) (hnd.erase i) (by simp [hs]) (fun j => ?_) ⟨by simp [Act.put, hI.size], hI.defers, hI.below.trans (hbl.mono hI.below.size), fun u hu => ?_, fun j u hj hu => ?_, fun j k u u' hj hk h2 h3 h4 hu hu' x hx => ?_⟩
   ·
    rw [hnd.mem_erase_iff, hmem, getD_set _ _ _ (by rw [hs]; exact hil)]
    by_cases hji : j = i
    ·
     subst hji; simp
    ·
     simp [hji]
   ·
    simp only [Act.put]
    rw [tmps_set _ _ _ _ hta, if_neg (fun e => hu (by rw [e]; exact List.mem_of_getElem? ht))]
    exact hI.out u hu
   ·
    simp only [Act.put]
    rw [getD_set _ _ _ (by rw [hs]; exact hil)] at hj
    rw [tmps_set _ _ _ _ hta]
    by_cases hji : j = i
    ·
     subst hji
     rw [ht] at hu; cases hu
     rw [if_pos rfl]; exact hv
    ·
     rw [if_neg hji] at hj
     rw [if_neg (fun e => hji (nodup_get hdn hu (by rw [e]; exact ht)))]
     exact hst _ _ _ _ (hI.v j u hj hu) hbl
   ·
    simp only [Act.put] at hx ⊢
    rw [getD_set _ _ _ (by rw [hs]; exact hil)] at hj hk
    rw [tmps_set _ _ _ _ hta] at hx ⊢
    by_cases hji : j = i
    ·
     subst hji
     rw [ht] at hu; cases hu
     rw [if_pos rfl] at hx
     have hkj : ¬ k = j := fun e => h4 e.symm
     rw [if_neg hkj] at hk
     rw [if_neg (fun e => hkj (nodup_get hdn hu' (by rw [e]; exact ht)))]
     intro h9
     have h10 := hlt k _ w' x h3 (hI.v k u' hk hu') h9
     have h11 := hfr h2 x hx
     omega
    ·
     rw [if_neg hji] at hj
     rw [if_neg (fun e => hji (nodup_get hdn hu (by rw [e]; exact ht)))] at hx
     by_cases hki : k = i
     ·
      subst hki
      rw [ht] at hu'; cases hu'
      rw [if_pos rfl]
      intro h9
      have h10 := hlt j _ w' x h2 (hI.v j u hj hu) hx
      have h11 := hfr h3 x h9
      omega
     ·
      rw [if_neg hki] at hk
      rw [if_neg (fun e => hki (nodup_get hdn hu' (by rw [e]; exact ht)))]
      exact hI.fr j k u u' hj hk h2 h3 h4 hu hu' x hx
 refine key ops.size (List.range ops.size) _ a _ (by simp) List.nodup_range (by simp) (fun i => ?_) ⟨rfl, rfl, Below.refl _ _, fun _ _ => rfl, fun j t hj => ?_, fun j k t u hj => ?_⟩
 ·
  rw [List.mem_range, getD_replicate_false]; simp
 ·
  rw [getD_replicate_false] at hj; cases hj
 ·
  rw [getD_replicate_false] at hj; cases hj
end Text
end Go.Proofs.YtklfficlegfhjaaGreat
/- newSearch. -/
namespace Go.Proofs.YtklfficlegfhjaaGreat
open Go Go.RowKit Go.Shelf Go.WideMaps Go.ChangeMaps Go.Lib Go.Sort Gf Sha

set_option maxRecDepth 100000 in
set_option maxHeartbeats 2000000 in
theorem sortedf_own (gb : Nat) (A : Option Addr) (n c : Nat) (hs : List Hd) (w : World) (h : LS rHd 3 24 w A n c hs) (hb : w.cell? ⟨gb, 0, none⟩ = some (.slice A n c)) (hn : n ≤ 1000) (hnd : (hs.map Hd.dv).Nodup) :
  Calls Tryz.prog 63 #[.func (.func 79) #[] #[.pointer (some ⟨gb, 0, none⟩)], .func (.func 65) #[] #[]] w fun e w' =>
   ∃ A' c', e = .returned (.slice A' n c') ∧ RW w' 76 3 (.slice A' n c') n ((prefL hs).flatMap hdL) ∧ (∀ b, (Value.slice A' n c').ownBlock = some b → w.heap.size ≤ b) ∧ Below w.heap.size w w' := by
 have H := Lib.hid h
 have HB := Lib.hid hb
 have HL := Lib.hid h.1
 have HN := Lib.hid hn
 have HND := Lib.hid hnd
 have HOK : Hid (∀ x ∈ hs, okHd x) := Lib.hid (fun x hx => by
  obtain ⟨k, hk, rfl⟩ := List.getElem_of_mem hx
  obtain ⟨y, g, o, cs, hy, _, _, hr⟩ := h.elem_at (k := k) (by rw [← h.1]; exact hk)
  rw [List.getElem?_eq_getElem hk] at hy
  cases hy
  exact hr.2)
 clear h hb hn hnd
 go_enter Tryz.func63, Tryz.ntmps63
 go_wp2_with (first
  | (go_at_call 77; go_in)
  | (go_at_call 86; refine (appseq_any gb A n c hs w H.out HB.out HN.out).mono ?_; rintro e w1 ⟨v, rfl, r1, r2, r3⟩; have HR1 := Lib.hid r1; have HO1 := Lib.hid r2; have HB1 := Lib.hid r3; clear r1 r2 r3)
  | (go_at_call 78; refine (sort_hd cfH swoH 65 #[] (enters_of Tryz.func65 (by kernel_rfl) rfl) v hs w1 (by rw [HL.out]; exact HR1.out) (by rw [HL.out]; have := HN.out; omega) (fun W x y _ => preferred_any x y W)).mono ?_; rintro e w2 ⟨rfl, vs', p1, p2, p3, p4⟩; have HP := Lib.hid p1; have HS := Lib.hid p2; have HR2 := Lib.hid p3; have HK2 := Lib.hid p4; clear p1 p2 p3 p4))
 go_ret
 have hl : vs'.length = n := HP.out.length_eq.trans HL.out
 have e1 : vs' = prefL hs := pref_one HND.out HP.out (HS.out.imp (fun h => by rw [← cfH_lt]; exact h))
 obtain ⟨A', c', ev, _⟩ := HR2.out.form
 rw [hl] at ev
 subst ev
 have hr2 := HR2.out
 rw [hl, e1] at hr2
 refine ⟨A', c', rfl, hr2, fun b hb => HO1.out b hb, ?_⟩
 exact ((Kp.of_below (S := fun i => w.heap.size ≤ i) HB1.out).trans (HK2.out.mono (fun i _ e => HO1.out i e))).below (Nat.le_refl _) (fun i h => h)
theorem values_any (A : Option Addr) (n c : Nat) (w : World) :
  Calls Tryz.prog 64 #[.slice A n c] w fun e w' => ∃ gb, e = .returned (.func (.func 79) #[] #[.pointer (some ⟨gb, 0, none⟩)]) ∧ BL w' gb 23 [.slice A n c] ∧ w.heap.size ≤ gb ∧ Below w.heap.size w w' := by
 go_enter Tryz.func64, Tryz.ntmps64
 go_wp2_with (first
  | ((with_reducible show OpW 1); refine wpList_box1 _ rfl 23 (.tmp 0) rfl _ rfl rfl ?_; intro w1 a1 a2 a3; have HV1 := Lib.hid a1; have HX1 := Lib.hid a2; have HZ1 := Lib.hid a3; clear a1 a2 a3))
 go_ret
 exact ⟨_, rfl, HV1.out, Nat.le_refl _, HX1.out⟩
section
variable {P : Program} {w w' : World} {o : Oper} {a : Act} {Q : Exit → Act → World → Prop} {K : Act → World → Prop}
theorem wp_val {v : Value} (h : (execOp a.eval o).run P w = .ok (.value v) w') (hK : K (a.put o.dst v) w') : o.wp P a w K Q := by
 unfold Oper.wp
 rw [h]
 exact hK
theorem exec_mk {t te : TypeId} {x y : Operand} (hop : o.op = .makeSlice t x y) {zv : Value} {bytes : Nat} (ht : P.underlying t = some (.slice te)) (hinfo : (P.info? te).map (fun i => (i.zero, i.size, i.bytes)) = some (some zv, 1, bytes)) (hz1 : zv.cells = #[zv]) {k n : Nat} (hx : a.eval x = .int .i64 (k : Int)) (hy : a.eval y = .int .i64 (n : Int)) (hk : k ≤ n) (hb : bytes * n ≤ 281474976710656) (hn : n ≤ 9223372036854775807) :
  (execOp a.eval o).run P w = .ok (.value (.slice (some ⟨w.heap.size, 0, none⟩) k n)) (w.alloc (.cells (List.replicate n zv).toArray te)) := by
 obtain ⟨i, hi, hz, hs, hby⟩ := info_parts hinfo
 have hbb : (i.bytes : Int) * (n : Int) ≤ 281474976710656 := by rw [hby, ← Int.natCast_mul]; exact Int.ofNat_le.2 hb
 have hr := run_make (P := P) w t te i zv ht hi hz .i64 .i64 (k : Int) (n : Int) (by omega) (by omega) hbb (by omega)
 rw [hs, hz1] at hr
 simp only [Int.toNat_natCast, Nat.mul_one, made_one] at hr
 unfold execOp
 simp only [hop, hx, hy]
 simp [hr, Result.andThen]
end
end Go.Proofs.YtklfficlegfhjaaGreat
/- newSearch. -/
namespace Go.Proofs.YtklfficlegfhjaaGreat
open Go Go.RowKit Go.Shelf Go.WideMaps Go.ChangeMaps Gf Sha

def nilI : Value := .slice none 0 0
/-- What a new search has laid. -/
structure NsB (z : Nat) (w : World) (A' : Option Addr) (c' m bm gm gc n : Nat) (hs : List Hd) : Prop where
 h : RW w 76 3 (.slice A' m c') m ((prefL hs).flatMap hdL)
 ho : ∀ b, (Value.slice A' m c').ownBlock = some b → z ≤ b
 mp : MG Tryz.prog 90 odV (.bool false) w bm (fun _ => .bool false)
 mo : z ≤ bm
 m : BL w gm 39 (List.replicate n nilI)
 mz : z ≤ gm
 c : BL w gc 39 (List.replicate n nilI)
 cz : z ≤ gc
 ne : gm ≠ gc
theorem NsB.kept {z : Nat} {w w' : World} {A' : Option Addr} {c' m bm gm gc n : Nat} {hs : List Hd} (h : NsB z w A' c' m bm gm gc n hs) (hb : Below w.heap.size w w') : NsB z w' A' c' m bm gm gc n hs :=
 ⟨h.h.kept hb, h.ho, h.mp.kept hb, h.mo, h.m.kept hb, h.mz, h.c.kept hb, h.cz, h.ne⟩
def nsL (A : Option Addr) (n c : Nat) (A' : Option Addr) (c' m bm gm gc : Nat) : List Value := [.slice A n c, .slice A' m c', nilI, .map (some bm), .slice (some ⟨gm, 0, none⟩) n n, .slice (some ⟨gc, 0, none⟩) n n, .nilFunc, .nilFunc, .int .i64 0]
abbrev nsM (A : Option Addr) (n c : Nat) (A' : Option Addr) (c' m : Nat) (v : Value) (bm gm gc : Nat) : List Value := [.slice A n c, .slice A' m c', v, .map (some bm), .slice (some ⟨gm, 0, none⟩) n n, .slice (some ⟨gc, 0, none⟩) n n, .nilFunc, .nilFunc, .int .i64 0]
theorem map_ne_bl {P : Program} {k : TypeId} {enc : List UInt8 × Int → Value} {z : Value} {w : World} {b g : Nat} {f : List UInt8 × Int → Value} {t : TypeId} {l : List Value} (h : MG P k enc z w b f) (hb : BL w g t l) : b ≠ g := fun e => by
 subst e
 obtain ⟨_, ⟨L, ⟨es, clock, h1, _⟩, _⟩, _⟩ := h
 have h9 := hb.symm.trans h1
 cases h9
theorem NsB.ls {z : Nat} {w w' : World} {A' : Option Addr} {c' m bm gm gc n : Nat} {hs : List Hd} (h : NsB z w A' c' m bm gm gc n hs) (hl : (prefL hs).length = m) (hok : ∀ x ∈ hs, okHd x) (hm : m ≤ 12) {S : Nat → Prop} (hk : Kp S w w') (hn : ∀ b, (Value.slice A' m c').ownBlock = some b → ¬ S b) : LS rHd 3 24 w' A' m c' (prefL hs) :=
 hd_ls (h.h.kp hk hn) hl (fun x hx => hok x ((prefL_perm hs).mem_iff.1 hx)) (by unfold lim; omega)
theorem bldPi (s : List UInt8) (i : Int) (w : World) : (Instr.build 78 #[(0, .string (strB s)), (1, .int .i64 i)]).run Tryz.prog w = .ok (.agg #[.string (strB s), .int .i64 i]) w := by kernel_rfl
/-- The first k lists of pieces without a place. -/
structure MisB (z : Nat) (w : World) (gm n : Nat) (ws : List Wt) (ps : List Pl) (csv : List Value) (k : Nat) : Prop where
 b : BL w gm 39 csv
 l : csv.length = n
 d : ∀ j w', j < k → ws[j]? = some w' → ∃ v, csv[j]? = some v ∧ OwnI w z v (withoutL w' ps)
 r : ∀ j, k ≤ j → j < n → csv[j]? = some nilI
theorem wo_next {ps : List Pl} {w : Wt} {t : Nat} : ((List.range (t + 1)).map (fun k : Nat => (k : Int))).filter (fun i => !hasIx ps w.st i) = ((List.range t).map (fun k : Nat => (k : Int))).filter (fun i => !hasIx ps w.st i) ++ (if (!hasIx ps w.st (t : Int)) = true then [(t : Int)] else []) := by
 rw [List.range_succ, List.map_append, List.filter_append]
 congr 1
 by_cases h : (!hasIx ps w.st (t : Int)) = true
 ·
  simp [h]
 ·
  simp [h]
theorem MisB.kp {z : Nat} {w w' : World} {gm n : Nat} {ws : List Wt} {ps : List Pl} {csv : List Value} {k : Nat} (h : MisB z w gm n ws ps csv k) {S : Nat → Prop} (hk : Kp S w w') (h1 : ¬ S gm) (h2 : ∀ b, z ≤ b → b < w.heap.size → ¬ S b) : MisB z w' gm n ws ps csv k :=
 ⟨hk.bl h.b h1, h.l, fun j w0 hj hw => let ⟨v, e1, e2⟩ := h.d j w0 hj hw; ⟨v, e1, e2.1.kp hk (fun b hb => h2 b (e2.2 b hb) (e2.1.lt hb)), e2.2⟩, h.r⟩
theorem MisB.next {z : Nat} {w w' : World} {gm n : Nat} {ws : List Wt} {ps : List Pl} {csv : List Value} {k : Nat} {y : Wt} {v : Value} (h : MisB z w gm n ws ps csv k) (hk : Kp (· = gm) w w') (hb : BL w' gm 39 (csv.set k v)) (hy : ws[k]? = some y) (ho : OwnI w' z v (withoutL y ps)) (hkn : k < n) : MisB z w' gm n ws ps (csv.set k v) (k + 1) := by
 refine ⟨hb, by rw [List.length_set]; exact h.l, fun j w0 hj hw => ?_, fun j hj hjn => by rw [List.getElem?_set_ne (by omega)]; exact h.r j (by omega) hjn⟩
 by_cases e : j = k
 ·
  subst e
  rw [hy] at hw; cases hw
  exact ⟨v, by rw [List.getElem?_set_self (by rw [h.l]; exact hkn)], ho⟩
 ·
  obtain ⟨u, e1, e2⟩ := h.d j w0 (by omega) hw
  exact ⟨u, by rw [List.getElem?_set_ne (fun e9 => e e9.symm)]; exact e1, e2.1.kp hk (fun b hb0 e9 => e2.1.ne_bl h.b (by decide) b hb0 e9), e2.2⟩
def nsV (z : Nat) (A : Option Addr) (n c : Nat) (B : Option Addr) (m d : Nat) (hs : List Hd) : Nat → Value → World → Prop
 | 0, v, _ => v = .slice A n c
 | 1, v, _ => v = .slice B m d
 | 2, v, w => ∃ gb, v = .func (.func 79) #[] #[.pointer (some ⟨gb, 0, none⟩)] ∧ BL w gb 23 [.slice B m d]
 | 3, v, w => ∃ A' c', v = .slice A' m c' ∧ RW w 76 3 v m ((prefL hs).flatMap hdL) ∧ ∀ b, v.ownBlock = some b → z ≤ b
 | 4, v, w => ∃ b, v = .map (some b) ∧ MG Tryz.prog 90 odV (.bool false) w b (fun _ => .bool false) ∧ z ≤ b
 | 5, v, _ => v = .slice A n c
 | 6, v, _ => v = .int .i64 (n : Int)
 | 7, v, w => ∃ g, v = .slice (some ⟨g, 0, none⟩) n n ∧ BL w g 39 (List.replicate n nilI) ∧ z ≤ g
 | 8, v, _ => v = .slice A n c
 | 9, v, _ => v = .int .i64 (n : Int)
 | 10, v, w => ∃ g, v = .slice (some ⟨g, 0, none⟩) n n ∧ BL w g 39 (List.replicate n nilI) ∧ z ≤ g
 | 11, v, w => ∃ A' c' bm gm gc, v = .agg (nsL A n c A' c' m bm gm gc).toArray ∧ NsB z w A' c' m bm gm gc n hs
 | _, v, w => ∃ g A' c' bm gm gc, v = .pointer (some ⟨g, 0, none⟩) ∧ BL w g 100 (nsL A n c A' c' m bm gm gc) ∧ z ≤ g ∧ NsB z w A' c' m bm gm gc n hs
theorem nsV_keep {z : Nat} {A : Option Addr} {n c : Nat} {B : Option Addr} {m d : Nat} {hs : List Hd} (j : Nat) (v : Value) (w w' : World) (h : nsV z A n c B m d hs j v w) (hb : Below w.heap.size w w') : nsV z A n c B m d hs j v w' := by
 unfold nsV at h ⊢
 split <;> simp only at h
 ·
  exact h
 ·
  exact h
 ·
  obtain ⟨gb, h1, h2⟩ := h; exact ⟨gb, h1, h2.kept hb⟩
 ·
  obtain ⟨A', c', h1, h2, h3⟩ := h; exact ⟨A', c', h1, h2.kept hb, h3⟩
 ·
  obtain ⟨b, h1, h2, h3⟩ := h; exact ⟨b, h1, h2.kept hb, h3⟩
 ·
  exact h
 ·
  exact h
 ·
  obtain ⟨g, h1, h2, h3⟩ := h; exact ⟨g, h1, h2.kept hb, h3⟩
 ·
  exact h
 ·
  exact h
 ·
  obtain ⟨g, h1, h2, h3⟩ := h; exact ⟨g, h1, h2.kept hb, h3⟩
 ·
  obtain ⟨A', c', bm, gm, gc, h1, h2⟩ := h; exact ⟨A', c', bm, gm, gc, h1, h2.kept hb⟩
 ·
  obtain ⟨g, A', c', bm, gm, gc, h1, h2, h3, h4⟩ := h; exact ⟨g, A', c', bm, gm, gc, h1, h2.kept hb, h3, h4.kept hb⟩
def nsF (j : Nat) : Bool := j == 7 || j == 10
theorem nsV_lt {z : Nat} {A : Option Addr} {n c : Nat} {B : Option Addr} {m d : Nat} {hs : List Hd} (j : Nat) (v : Value) (w : World) (b : Nat) (hj : nsF j = true) (h : nsV z A n c B m d hs j v w) (hb : v.ownBlock = some b) : b < w.heap.size := by
 unfold nsF at hj
 rw [Bool.or_eq_true, beq_iff_eq, beq_iff_eq] at hj
 rcases hj with rfl | rfl
 ·
  obtain ⟨g, rfl, h2, _⟩ := h; cases hb; exact h2.lt
 ·
  obtain ⟨g, rfl, h2, _⟩ := h; cases hb; exact h2.lt
theorem infoIs : (Tryz.prog.info? 39).map (fun i => (i.zero, i.size, i.bytes)) = some (some (.slice none 0 0), 1, 24) := by kernel_rfl
theorem bldSe (A : Option Addr) (n c : Nat) (A' : Option Addr) (c' m bm gm gc : Nat) (w : World) : (Instr.build 100 #[(0, .slice A n c), (1, .slice A' m c'), (3, .map (some bm)), (4, .slice (some ⟨gm, 0, none⟩) n n), (5, .slice (some ⟨gc, 0, none⟩) n n)]).run Tryz.prog w = .ok (.agg (nsL A n c A' c' m bm gm gc).toArray) w := by kernel_rfl
theorem arr_eq {t : Array Value} {n : Nat} (h : t.size = n) : t = ((List.range n).map (fun k => t.getD k undef)).toArray := by
 subst h
 apply Array.ext
 ·
  simp
 ·
  intro i h1 h2
  simp [h1]
theorem exec_box {P : Program} {w : World} {o : Oper} {a : Act} {t : TypeId} {x : Operand} (hop : o.op = .box t x) {l : List Value} (hx : a.eval x = .agg l.toArray) (hc : (Value.agg l.toArray).cells = l.toArray) : (execOp a.eval o).run P w = .ok (.value (.pointer (some ⟨w.heap.size, 0, none⟩))) (w.alloc (.cells l.toArray t)) := by
 unfold execOp
 simp only [hop, hx]
 simp [Instr.box, newVar, newRow, hc, Result.andThen]
theorem wp_mkmap {P : Program} {w : World} {o : Oper} {a : Act} {Q : Exit → Act → World → Prop} {K : Act → World → Prop} {t : TypeId} (k : TypeId) (hop : o.op = .makeMap t none) (h : ∀ w', MB P k w' w.heap.size [] → Below w.heap.size w w' → K (a.put o.dst (.map (some w.heap.size))) w') : o.wp P a w K Q := by
 unfold Oper.wp execOp
 simp only [hop]
 simp [run_makeMap', Result.andThen]
 exact h _ (MB.new P k w) ((Below.refl _ _).alloc (Nat.le_refl _) _)
def nsT (t : Array Value) (a : Array Value) : Array Value := ((List.range 115).map (fun k => if k ∈ [16, 17, 18, 19, 20, 21, 22, 23, 24, 25, 26, 27, 28, 7] then t.getD k undef else a.getD k undef)).toArray
set_option maxRecDepth 100000 in
theorem nsT_lit (A : Option Addr) (n c : Nat) (B : Option Addr) (m d : Nat) (C : Option Addr) (p q : Nat) (t : Array Value) : nsT t #[.slice A n c, .slice B m d, .slice C p q, undef, undef, undef, .pointer none, undef, undef, undef, undef, undef, undef, undef, undef, undef, undef, undef, undef, undef, undef, undef, undef, undef, undef, undef, undef, undef, undef, undef, undef, undef, undef, undef, undef, undef, undef, undef, undef, undef, undef, undef, undef, undef, undef, undef, undef, undef, undef, undef, undef, undef, undef, undef, undef, undef, undef, undef, undef, undef, undef, undef, undef, undef, undef, undef, undef, undef, undef, undef, undef, undef, undef, undef, undef, undef, undef, undef, undef, undef, undef, undef, undef, undef, undef, undef, undef, undef, undef, undef, undef, undef, undef, undef, undef, undef, undef, undef, undef, undef, undef, undef, undef, undef, undef, undef, undef, undef, undef, undef, undef, undef, undef, undef, undef] =
  #[.slice A n c, .slice B m d, .slice C p q, undef, undef, undef, .pointer none, t.getD 7 undef, undef, undef, undef, undef, undef, undef, undef, undef, t.getD 16 undef, t.getD 17 undef, t.getD 18 undef, t.getD 19 undef, t.getD 20 undef, t.getD 21 undef, t.getD 22 undef, t.getD 23 undef, t.getD 24 undef, t.getD 25 undef, t.getD 26 undef, t.getD 27 undef, t.getD 28 undef, undef, undef, undef, undef, undef, undef, undef, undef, undef, undef, undef, undef, undef, undef, undef, undef, undef, undef, undef, undef, undef, undef, undef, undef, undef, undef, undef, undef, undef, undef, undef, undef, undef, undef, undef, undef, undef, undef, undef, undef, undef, undef, undef, undef, undef, undef, undef, undef, undef, undef, undef, undef, undef, undef, undef, undef, undef, undef, undef, undef, undef, undef, undef, undef, undef, undef, undef, undef, undef, undef, undef, undef, undef, undef, undef, undef, undef, undef, undef, undef, undef, undef, undef, undef, undef, undef] := by kernel_rfl
/-- A new search. -/
structure NewS (W W' : World) (x : SX) (gm : Nat) (csv : List Value) (A : Option Addr) (n c : Nat) (ws : List Wt) (m : Nat) (hs : List Hd) (ps : List Pl) : Prop where
 xa : x.Aw = A ∧ x.cw = c ∧ x.vs = .nilFunc ∧ x.vf = .nilFunc ∧ x.Am = some ⟨gm, 0, none⟩ ∧ x.cm = n ∧ x.cc = n
 bg : BL W' x.g 100 (sxL x n m 0)
 h : RW W' 76 3 (.slice x.Ah m x.ch) m ((prefL hs).flatMap hdL)
 ho : ∀ b, (Value.slice x.Ah m x.ch).ownBlock = some b → W.heap.size ≤ b
 m : MG Tryz.prog 90 odV (.bool false) W' x.bm (fun y => .bool (hasAt ps y.1 y.2))
 mi : MisB W.heap.size W' gm n ws ps csv n
 l : OwnI W' W.heap.size x.vl ((prefL hs).map (fun h => h.qt - usedI ws ps h.dv))
 c : BL W' x.gc 39 (List.replicate n nilI)
 z : W.heap.size ≤ x.g ∧ W.heap.size ≤ x.bm ∧ W.heap.size ≤ gm ∧ W.heap.size ≤ x.gc
 ne : gm ≠ x.gc
 nl : ∀ (j : Nat) (w : Wt) (v : Value) (b : Nat), ws[j]? = some w → csv[j]? = some v → v.ownBlock = some b → x.vl.ownBlock ≠ some b
 b : Below W.heap.size W W'
section
set_option maxRecDepth 100000
set_option maxHeartbeats 8000000
theorem newSearch_any (A : Option Addr) (n c : Nat) (ws : List Wt) (B : Option Addr) (m d : Nat) (hs : List Hd) (C : Option Addr) (p q : Nat) (ps : List Pl) (W : World) (h : LS rWt 4 40 W A n c ws) (hh : LS rHd 3 24 W B m d hs) (hp : LS rPl 3 32 W C p q ps) (hw : wantsB ws = true) (hd : holdersB hs = true) (hpm : p ≤ 100000) :
  Calls Tryz.prog 46 #[.slice A n c, .slice B m d, .slice C p q] W fun e W' => ∃ x gm csv, e = .returned (.pointer (some ⟨x.g, 0, none⟩)) ∧ NewS W W' x gm csv A n c ws m hs ps := by
 have H := Lib.hid h
 have HH := Lib.hid hh
 have HP := Lib.hid hp
 clear h hh hp
 go_enter Tryz.func46, Tryz.ntmps46
 go_wp2_with fail
 have hmo : Tryz.prog.follows .mixedOrders = true := by kernel_rfl
 have HD : Hid (∀ x ∈ hs, okHd x) := Lib.hid (fun x hx => by
  obtain ⟨k, hk, rfl⟩ := List.getElem_of_mem hx
  obtain ⟨y, g, o, cs, hy, _, _, hr⟩ := HH.out.elem_at (k := k) (by rw [← HH.out.1]; exact hk)
  rw [List.getElem?_eq_getElem hk] at hy
  cases hy
  exact hr.2)
 have hnd : (hs.map Hd.dv).Nodup := by
  unfold holdersB at hd
  simp only [Bool.and_eq_true, decide_eq_true_eq] at hd
  exact hd.2
 have hm12 : m ≤ 12 := by
  unfold holdersB at hd
  simp only [Bool.and_eq_true, decide_eq_true_eq] at hd
  have := HH.out.1; omega
 have hn8 : n ≤ 8 := by
  unfold wantsB at hw
  simp only [Bool.and_eq_true, decide_eq_true_eq] at hw
  have := H.out.1; omega
 have hqr : ∀ x ∈ hs, 0 ≤ x.qt ∧ x.qt ≤ 1099511627776 := fun x hx => by
  unfold holdersB at hd
  simp only [Bool.and_eq_true, List.all_eq_true] at hd
  have := hd.1.2 x hx
  simp [hdB] at this
  omega
 refine Text.wp_region_free [16, 17, 18, 19, 20, 21, 22, 23, 24, 25, 26, 27, 28, 7] (nsV W.heap.size A n c B m d hs) nsF hmo (by kernel_rfl) (fun t ht => by simp at ht ⊢; omega) nsV_keep nsV_lt ?_ ?_
 ·
  intro i o b w' ho hB hsz hout hv hfr
  have hBW : Below W.heap.size W w' := (Below.refl _ W).drew.trans hB
  have e0 : b.eval (.tmp 0) = .slice A n c := hout 0 (by decide)
  have e1 : b.eval (.tmp 1) = .slice B m d := hout 1 (by decide)
  have s0 : b.tmps[0]?.getD undef = .slice A n c := by simpa [Act.eval] using e0
  have s1 : b.tmps[1]?.getD undef = .slice B m d := by simpa [Act.eval] using e1
  match i, ho, hv, hfr with
  | 0, ho, hv, hfr =>
   cases ho
   exact wp_val (v := .slice A n c) (w' := w') (by unfold execOp; simp [s0, go_sem]) ⟨_, rfl, rfl, Below.refl _ _, fun h => by cases h⟩
  | 1, ho, hv, hfr =>
   cases ho
   exact wp_val (v := .slice B m d) (w' := w') (by unfold execOp; simp [s1, go_sem]) ⟨_, rfl, rfl, Below.refl _ _, fun h => by cases h⟩
  | 2, ho, hv, hfr =>
   cases ho
   have h1 : b.eval (.tmp 17) = .slice B m d := hv 1 17 (by decide) rfl
   refine wp_callV (x := .func 64) (lb := #[]) (args := #[.slice B m d]) (R := fun v w'' => nsV W.heap.size A n c B m d hs 2 v w'' ∧ Below w'.heap.size w' w'') rfl rfl (enters_of Tryz.func64 (by kernel_rfl) rfl) (by simp [h1]) ?_ (fun v w'' hr => ⟨v, rfl, hr.1, hr.2, fun h => by cases h⟩)
   refine (values_any B m d w').mono ?_
   rintro e w'' ⟨gb, rfl, r1, r2, r3⟩
   exact ⟨_, rfl, ⟨gb, rfl, r1⟩, r3⟩
  | 3, ho, hv, hfr =>
   cases ho
   obtain ⟨gb, h1, h2⟩ : nsV W.heap.size A n c B m d hs 2 (b.eval (.tmp 18)) w' := hv 2 18 (by decide) rfl
   refine wp_callV (x := .func 63) (lb := #[]) (args := #[.func (.func 79) #[] #[.pointer (some ⟨gb, 0, none⟩)], .func (.func 65) #[] #[]]) (R := fun v w'' => nsV W.heap.size A n c B m d hs 3 v w'' ∧ Below w'.heap.size w' w'') rfl rfl (enters_of Tryz.func63 (by kernel_rfl) rfl) (by simp [h1]; rfl) ?_ (fun v w'' hr => ⟨v, rfl, hr.1, hr.2, fun h => by cases h⟩)
   refine (sortedf_own gb B m d hs w' (HH.out.kept stay_hd hBW) (h2.get (j := 0) rfl) (by omega) hnd).mono ?_
   rintro e w'' ⟨A', c', rfl, r1, r2, r3⟩
   exact ⟨_, rfl, ⟨A', c', rfl, r1, fun b hb => Nat.le_trans hB.size (r2 b hb)⟩, r3⟩
  | 4, ho, hv, hfr =>
   cases ho
   exact wp_mkmap 90 rfl (fun w'' h1 h2 => ⟨_, rfl, ⟨_, rfl, MG.new (MF.new h1), hBW.size⟩, h2, fun h => by cases h⟩)
  | 5, ho, hv, hfr =>
   cases ho
   exact wp_val (v := .slice A n c) (w' := w') (by unfold execOp; simp [s0, go_sem]) ⟨_, rfl, rfl, Below.refl _ _, fun h => by cases h⟩
  | 6, ho, hv, hfr =>
   cases ho
   have h1 : b.eval (.tmp 21) = .slice A n c := hv 5 21 (by decide) rfl
   have h2 : b.tmps[21]?.getD undef = .slice A n c := by simpa [Act.eval] using h1
   exact wp_val (v := .int .i64 (n : Int)) (w' := w') (by unfold execOp; simp [h2, go_sem]) ⟨_, rfl, rfl, Below.refl _ _, fun h => by cases h⟩
  | 7, ho, hv, hfr =>
   cases ho
   have h1 : b.eval (.tmp 22) = .int .i64 (n : Int) := hv 6 22 (by decide) rfl
   exact wp_val (exec_mk rfl Tryz.underlying97 infoIs rfl h1 h1 (Nat.le_refl _) (by omega) (by omega)) ⟨_, rfl, ⟨_, rfl, BL.new _ _ _, hBW.size⟩, (Below.refl _ _).alloc (Nat.le_refl _) _, fun _ x hx => by cases hx; exact Nat.le_refl _⟩
  | 8, ho, hv, hfr =>
   cases ho
   exact wp_val (v := .slice A n c) (w' := w') (by unfold execOp; simp [s0, go_sem]) ⟨_, rfl, rfl, Below.refl _ _, fun h => by cases h⟩
  | 9, ho, hv, hfr =>
   cases ho
   have h1 : b.eval (.tmp 24) = .slice A n c := hv 8 24 (by decide) rfl
   have h2 : b.tmps[24]?.getD undef = .slice A n c := by simpa [Act.eval] using h1
   exact wp_val (v := .int .i64 (n : Int)) (w' := w') (by unfold execOp; simp [h2, go_sem]) ⟨_, rfl, rfl, Below.refl _ _, fun h => by cases h⟩
  | 10, ho, hv, hfr =>
   cases ho
   have h1 : b.eval (.tmp 25) = .int .i64 (n : Int) := hv 9 25 (by decide) rfl
   exact wp_val (exec_mk rfl Tryz.underlying97 infoIs rfl h1 h1 (Nat.le_refl _) (by omega) (by omega)) ⟨_, rfl, ⟨_, rfl, BL.new _ _ _, hBW.size⟩, (Below.refl _ _).alloc (Nat.le_refl _) _, fun _ x hx => by cases hx; exact Nat.le_refl _⟩
  | 11, ho, hv, hfr =>
   cases ho
   have h0 : b.eval (.tmp 16) = .slice A n c := hv 0 16 (by decide) rfl
   obtain ⟨A', c', h3, h31, h32⟩ : nsV W.heap.size A n c B m d hs 3 (b.eval (.tmp 19)) w' := hv 3 19 (by decide) rfl
   obtain ⟨bm, h4, h41, h42⟩ : nsV W.heap.size A n c B m d hs 4 (b.eval (.tmp 20)) w' := hv 4 20 (by decide) rfl
   obtain ⟨gm, h7, h71, h72⟩ : nsV W.heap.size A n c B m d hs 7 (b.eval (.tmp 23)) w' := hv 7 23 (by decide) rfl
   obtain ⟨gc, h10, h101, h102⟩ : nsV W.heap.size A n c B m d hs 10 (b.eval (.tmp 26)) w' := hv 10 26 (by decide) rfl
   have hne := hfr 7 10 23 26 (by decide) (by decide) rfl rfl (by decide) rfl rfl gm (by show (b.eval (.tmp 23)).ownBlock = _; rw [h7]; rfl)
   rw [h3] at h31 h32
   refine wp_val (v := .agg (nsL A n c A' c' m bm gm gc).toArray) (w' := w') (exec_bld rfl (ps := #[(0, .slice A n c), (1, .slice A' m c'), (3, .map (some bm)), (4, .slice (some ⟨gm, 0, none⟩) n n), (5, .slice (some ⟨gc, 0, none⟩) n n)]) (by simp [h0, h3, h4, h7, h10]) (bldSe _ _ _ _ _ _ _ _ _ _)) ⟨_, rfl, ⟨A', c', bm, gm, gc, rfl, h31, h32, h41, h42, h71, h72, h101, h102, fun e => hne (by show (b.eval (.tmp 26)).ownBlock = _; rw [h10, e]; rfl)⟩, Below.refl _ _, fun h => by cases h⟩
  | 12, ho, hv, hfr =>
   cases ho
   obtain ⟨A', c', bm, gm, gc, h1, h2⟩ : nsV W.heap.size A n c B m d hs 11 (b.eval (.tmp 27)) w' := hv 11 27 (by decide) rfl
   exact wp_val (exec_box rfl h1 rfl) ⟨_, rfl, ⟨_, A', c', bm, gm, gc, rfl, BL.new _ _ _, hBW.size, h2.kept ((Below.refl _ _).alloc (Nat.le_refl _) _)⟩, (Below.refl _ _).alloc (Nat.le_refl _) _, fun h => by cases h⟩
  | 13, ho, hv, hfr =>
   cases ho
   have h1 : nsV W.heap.size A n c B m d hs 12 (b.eval (.tmp 28)) w' := hv 12 28 (by decide) rfl
   exact wp_val (v := b.eval (.tmp 28)) (w' := w') (by unfold execOp; simp [go_sem]) ⟨_, rfl, h1, Below.refl _ _, fun h => by cases h⟩
  | k + 14, ho, hv, hfr => cases ho
 ·
  intro b w1 hB hsz hdf hout hv _
  obtain ⟨g, A', c', bm, gm, gc, h1, h2, h3, h4⟩ : nsV W.heap.size A n c B m d hs 13 (b.tmps.getD 7 undef) w1 := hv 13 7 rfl
  have hsz' : b.tmps.size = 115 := hsz
  have hbt : b.tmps = nsT b.tmps #[.slice A n c, .slice B m d, .slice C p q, undef, undef, undef, .pointer none, undef, undef, undef, undef, undef, undef, undef, undef, undef, undef, undef, undef, undef, undef, undef, undef, undef, undef, undef, undef, undef, undef, undef, undef, undef, undef, undef, undef, undef, undef, undef, undef, undef, undef, undef, undef, undef, undef, undef, undef, undef, undef, undef, undef, undef, undef, undef, undef, undef, undef, undef, undef, undef, undef, undef, undef, undef, undef, undef, undef, undef, undef, undef, undef, undef, undef, undef, undef, undef, undef, undef, undef, undef, undef, undef, undef, undef, undef, undef, undef, undef, undef, undef, undef, undef, undef, undef, undef, undef, undef, undef, undef, undef, undef, undef, undef, undef, undef, undef, undef, undef, undef, undef, undef, undef, undef, undef, undef] := by
   conv => lhs; rw [arr_eq hsz']
   unfold nsT
   congr 1
   refine List.map_congr_left (fun k hk => ?_)
   by_cases hm : k ∈ [16, 17, 18, 19, 20, 21, 22, 23, 24, 25, 26, 27, 28, 7]
   ·
    rw [if_pos hm]
   ·
    rw [if_neg hm]; exact hout k hm
  have hbe := hbt.trans (nsT_lit A n c B m d C p q b.tmps)
  obtain ⟨bt, bd⟩ := b
  simp only at hbe hdf h1
  subst hdf
  obtain ⟨u16, hu16⟩ : ∃ u, u = bt.getD 16 undef := ⟨_, rfl⟩
  obtain ⟨u17, hu17⟩ : ∃ u, u = bt.getD 17 undef := ⟨_, rfl⟩
  obtain ⟨u18, hu18⟩ : ∃ u, u = bt.getD 18 undef := ⟨_, rfl⟩
  obtain ⟨u19, hu19⟩ : ∃ u, u = bt.getD 19 undef := ⟨_, rfl⟩
  obtain ⟨u20, hu20⟩ : ∃ u, u = bt.getD 20 undef := ⟨_, rfl⟩
  obtain ⟨u21, hu21⟩ : ∃ u, u = bt.getD 21 undef := ⟨_, rfl⟩
  obtain ⟨u22, hu22⟩ : ∃ u, u = bt.getD 22 undef := ⟨_, rfl⟩
  obtain ⟨u23, hu23⟩ : ∃ u, u = bt.getD 23 undef := ⟨_, rfl⟩
  obtain ⟨u24, hu24⟩ : ∃ u, u = bt.getD 24 undef := ⟨_, rfl⟩
  obtain ⟨u25, hu25⟩ : ∃ u, u = bt.getD 25 undef := ⟨_, rfl⟩
  obtain ⟨u26, hu26⟩ : ∃ u, u = bt.getD 26 undef := ⟨_, rfl⟩
  obtain ⟨u27, hu27⟩ : ∃ u, u = bt.getD 27 undef := ⟨_, rfl⟩
  obtain ⟨u28, hu28⟩ : ∃ u, u = bt.getD 28 undef := ⟨_, rfl⟩
  obtain ⟨u7, hu7⟩ : ∃ u, u = bt.getD 7 undef := ⟨_, rfl⟩
  rw [← hu16, ← hu17, ← hu18, ← hu19, ← hu20, ← hu21, ← hu22, ← hu23, ← hu24, ← hu25, ← hu26, ← hu27, ← hu28, ← hu7] at hbe
  rw [← hu7] at h1
  clear hu16 hu17 hu18 hu19 hu20 hu21 hu22 hu23 hu24 hu25 hu26 hu27 hu28 hu7 hbt hsz hsz' hout hv
  subst hbe
  subst h1
  have HN := Lib.hid h4
  have HG := Lib.hid h2
  have HGZ := Lib.hid h3
  have HBW : Hid (Below W.heap.size W w1) := Lib.hid ((Below.refl _ W).drew.trans hB)
  clear h2 h3 h4 hB
  have hpl : (prefL hs).length = m := ((prefL_perm hs).length_eq).trans HH.out.1
  have HPL := Lib.hid hpl
  have hhg : ∀ b, (Value.slice A' m c').ownBlock = some b → b ≠ g := fun b hb e => HN.out.h.ne_bl HG.out (by decide) b hb e
  have HLS : Hid (∀ w', Kp (· = g) w1 w' → LS rHd 3 24 w' A' m c' (prefL hs)) := Lib.hid (fun w' hk => HN.out.ls HPL.out HD.out hm12 hk hhg)
  have HGL : Hid (g < w1.heap.size) := Lib.hid HG.out.lt
  have r1 := HG.out.get (j := 1) rfl
  clear hpl hhg
  go_wp2_with fail
  go_loopw [34] (fun iv wr => ∃ (k : Nat) (v : Value), iv = .int .i64 (k : Int) ∧ k ≤ m ∧ Hid (BL wr g 100 (nsM A n c A' c' m v bm gm gc)) ∧ Hid (OwnI wr w1.heap.size v (((prefL hs).take k).map (fun h => h.qt - usedI ws ps h.dv))) ∧ Hid (Kp (· = g) w1 wr)) (fun iv _ => m - (intOf iv).toNat)
  case atStart => exact ⟨0, nilI, rfl, by omega, HG, Lib.hid (OwnI.nil _ _), Lib.hid (Kp.refl _ _)⟩
  case round =>
   obtain ⟨k, v, rfl, hk, hg, ho, hkp⟩ := hrel
   obtain ⟨wx, hwx⟩ : ∃ x, x = wr := ⟨_, rfl⟩
   rw [← hwx] at hg ho hkp ⊢
   clear hwx
   by_cases hlt : k < m
   ·
    obtain ⟨y, gh, oh, cs, hy, eh, hat, hr⟩ := LS.elem_at (HLS.out wx hkp.out) hlt
    obtain ⟨rfl, hok⟩ := hr
    subst eh
    have HY := Lib.hid hy
    have HAY := Lib.hid hat
    have hltI : (k : Int) < (m : Int) := by omega
    clear hy hat
    go_wp2_with (first
     | ((with_reducible show OpW 37); refine wpList_loadv _ rfl 76 (.tmp 36) rfl 3 (by kernel_rfl) gh (oh + k * 3) (hdL y) (by go_simp) HAY.out rfl ?_)
     | ((with_reducible show OpW 9); refine wpList_alloc _ rfl 76 rfl hdZ hdZero ?_; intro w3 a1 a2 a3; have HV3 := Lib.hid a1; have HX3 := Lib.hid a2; clear a1 a2 a3)
     | ((with_reducible show OpN); refine wpList_storev _ rfl 76 (.tmp 9) (.tmp 37) rfl 3 (by kernel_rfl) wx.heap.size 0 _ hdZ (hdL y) rfl rfl HV3.out rfl (one_hd y) (by decide) ?_; intro w4 a1 a2 a3; have HV4 : Hid (BL w4 wx.heap.size 76 (hdL y)) := Lib.hid a1; have HX4 : Hid (Below wx.heap.size wx w4) := Lib.hid (((Kp.of_below (S := fun _ => False) HX3.out).after a2 (fun i hi e => by omega)).below (Nat.le_refl _) (fun _ h => h.elim)); clear a1 a2 a3; have HG4 := Lib.hid (hg.out.kept HX4.out); have HK4 := Lib.hid (hkp.out.then HX4.out))
     | fail)
    have HBX : Hid (Below W.heap.size W w4) := Lib.hid (((Kp.of_below (S := fun b => W.heap.size ≤ b) HBW.out).trans (HK4.out.mono (fun b _ e => by have := HGZ.out; show W.heap.size ≤ b; omega))).below (Nat.le_refl _) (fun _ h => h))
    have HO4 := Lib.hid (ho.out.kept HX4.out)
    have hqt := hqr y ((prefL_perm hs).mem_iff.1 (List.mem_of_getElem? HY.out))
    have hur := used_rng hw ps y.dv p
    have hup : ps.take p = ps := by rw [← HP.out.1, List.take_length]
    rw [hup] at hur
    obtain ⟨U, hU⟩ : ∃ U, U = usedI ws ps y.dv := ⟨_, rfl⟩
    rw [← hU] at hur
    have HU := Lib.hid hU
    have hwu : IntKind.i64.wrap (y.qt - U) = y.qt - U := IntWalk.i64_in _ (by omega)
    have HLN : Hid ((((prefL hs).take k).map (fun h => h.qt - usedI ws ps h.dv)).length = k) := Lib.hid (by rw [List.length_map, List.length_take, HPL.out]; omega)
    have HNX : Hid (((prefL hs).take (k + 1)).map (fun h => h.qt - usedI ws ps h.dv) = ((prefL hs).take k).map (fun h => h.qt - usedI ws ps h.dv) ++ [y.qt - U]) := Lib.hid (by rw [take_next HY.out, List.map_append, hU]; rfl)
    have r1 := HV4.out.drew.get (j := 0) rfl
    clear hup hU
    refine Text.wp_region_text (fun w' => w'.cell? ⟨g, 2, none⟩ = some v ∧ w'.cell? ⟨wx.heap.size, 1, none⟩ = some (.int .i64 y.qt)) [(0, 4), (1, 4), (2, 4), (3, 4), (5, 4), (7, 4), (8, 4), (9, 4), (4, 0), (6, 0), (10, 1), (11, 2), (12, 4), (13, 2), (14, 2), (15, 4), (16, 4), (17, 3)] (by kernel_rfl) (by kernel_rfl) (fun _ _ _ _ _ h => h) (⟨HG4.out.drew.get (j := 2) rfl, HV4.out.drew.get (j := 1) rfl⟩) ?_
    iterate 8 (refine Text.purek rfl rfl (fun K hK => ⟨_, fun w' => by go_simp <;> rfl, ?_⟩); go_simp; refine hK _ ?_; clear hK K)
    iterate 2 (refine Text.heldk rfl rfl (fun K hK => ⟨_, fun w' hw' => by go_simp <;> rfl, ?_⟩); go_simp; refine hK _ ?_; clear hK K)
    (refine Text.readk rfl rfl (fun K hK => ⟨_, by go_simp <;> rfl, ?_⟩); go_simp; refine hK _ ?_; clear hK K)
    refine Text.eff rfl rfl (fun K hK => ?_)
    go_simp
    refine (used_any A n c ws C p q ps y.dv w4.drew ((H.out.kept stay_wt HBX.out).drew stay_wt) ((HP.out.kept stay_pl HBX.out).drew stay_pl) hw hpm).mono ?_
    rintro e w5 ⟨rfl, b5⟩
    rw [← HU.out]
    have HX5 : Hid (Below w4.heap.size w4 w5) := Lib.hid ((Below.refl _ w4).drew.trans b5)
    have HG5 := Lib.hid (HG4.out.kept HX5.out)
    have HV5 := Lib.hid (HV4.out.kept HX5.out)
    refine hK _ _ ⟨HG5.out.get (j := 2) rfl, HV5.out.get (j := 1) rfl⟩ ?_
    clear hK K b5
    (refine Text.purek rfl rfl (fun K hK => ⟨_, fun w' => by go_simp <;> rfl, ?_⟩); go_simp; refine hK _ ?_; clear hK K)
    refine Text.eff rfl rfl (fun K hK => ?_)
    refine wp_bslice 39 3 1 _ rfl #[(0, .int .i64 (y.qt - U))] (by rw [List.map_toArray]; first | rfl | (rw [hwu]; rfl)) [.int .i64 (y.qt - U)] (bslI _ _) ?_
    intro w6 a1 a2 a3
    have HS6 := Lib.hid a1
    have HX6 : Hid (Below w4.heap.size w4 w6) := Lib.hid (HX5.out.trans (a2.mono HX5.out.size))
    have HG6 := Lib.hid (HG4.out.kept HX6.out)
    have HV6 := Lib.hid (HV4.out.kept HX6.out)
    have HO6 := Lib.hid (HO4.out.kept HX6.out)
    clear a1 a2 a3
    refine hK _ _ ⟨HG6.out.get (j := 2) rfl, HV6.out.get (j := 1) rfl⟩ ?_
    clear hK K
    refine Text.eff rfl rfl (fun K hK => ?_)
    obtain ⟨iS, i1, i2, i3, i4⟩ := info_some infoI
    refine wp_appRW _ (.tmp 42) (.tmp 51) 39 3 1 iS _ rfl Tryz.underlying39 i1 i2 i3 rfl v _ _ rfl HO6.out.1 _ _ rfl HS6.out rfl (fun u hu => by rw [List.mem_singleton.1 hu]; rfl) (by rw [i4, HLN.out]; omega) (by rw [HLN.out]; omega) ?_
    intro v' w7 a1
    have HO7 := Lib.hid (HO6.out.push a1 (by have := HK4.out.size; have := HX6.out.size; omega))
    have HG7 : Hid (BL w7 g 100 (nsM A n c (some ⟨gh, oh, none⟩) c' m v bm gm gc)) := Lib.hid (a1.bl HO6.out.1 HG6.out (by decide))
    have HV7 : Hid (BL w7 wx.heap.size 76 (hdL y)) := Lib.hid (a1.bl HO6.out.1 HV6.out (by decide))
    have HK7 : Hid (Kp (· = g) w1 w7) := Lib.hid ((HK4.out.then HX6.out).after a1.kp (fun b hb e => by have := HO6.out.2 b e; omega))
    clear a1 i1 i2 i3 i4
    refine hK _ _ ⟨HG7.out.get (j := 2) rfl, HV7.out.get (j := 1) rfl⟩ ?_
    clear hK K
    iterate 2 (refine Text.purek rfl rfl (fun K hK => ⟨_, fun w' => by go_simp <;> rfl, ?_⟩); go_simp; refine hK _ ?_; clear hK K)
    refine Text.last rfl rfl (fun K hK => ?_)
    obtain ⟨A7, c7, e7, _⟩ := HO7.out.1.form
    refine wp_store1 39 (.tmp 54) (.tmp 52) rfl (sz1 _ (by kernel_rfl) _) g 2 _ _ v' rfl rfl HG7.out (by rw [e7]; rfl) (by rw [e7]; rfl) (by simp) ?_
    intro w8 a1 a2 a3
    have HG8 : Hid (BL w8 g 100 (nsM A n c (some ⟨gh, oh, none⟩) c' m v' bm gm gc)) := Lib.hid a1
    have HO8 : Hid (OwnI w8 w1.heap.size v' (((prefL hs).take k).map (fun h => h.qt - usedI ws ps h.dv) ++ [y.qt - U])) := Lib.hid ⟨HO7.out.1.kp a2 (fun b hb e => HO7.out.1.ne_bl HG7.out (by decide) b hb e), HO7.out.2⟩
    have HK8 := Lib.hid (HK7.out.trans a2)
    clear a1 a2 a3 e7 r1
    refine hK _ _ ?_
    clear hK K
    refine Text.done ?_
    go_wp2_with fail
    go_roundw
    case rel => exact ⟨k + 1, v', by go_num, by omega, HG8, by rw [HNX.out]; exact HO8, HK8⟩
    case measure => simp [intOf]; omega
   ·
    obtain rfl : k = m := by omega
    have hpt : (prefL hs).take k = prefL hs := by rw [← HPL.out, List.take_length]
    rw [hpt] at ho
    have HG2 := hg
    have HK2 := hkp
    have HO2 := ho
    have HBX : Hid (Below W.heap.size W wx) := Lib.hid (((Kp.of_below (S := fun b => W.heap.size ≤ b) HBW.out).trans (hkp.out.mono (fun b _ e => by have := HGZ.out; show W.heap.size ≤ b; omega))).below (Nat.le_refl _) (fun _ h => h))
    clear hpt hg ho hkp
    go_wp2_with (first
     | ((with_reducible show OpW 56); refine wpList_makeG (enc := odV) _ rfl 87 78 rfl (.bool false) ?_; intro w2 a1 a2 a3; have HP2 := Lib.hid a1; have HX2 := Lib.hid a2; clear a1 a2 a3))
    obtain ⟨pb, hpb⟩ : ∃ b, b = wx.heap.size := ⟨_, rfl⟩
    rw [← hpb] at HP2 ⊢
    have HPB := Lib.hid hpb
    have HM2 : Hid (MG Tryz.prog 90 odV (.bool false) w2 bm (fun _ => .bool false)) := Lib.hid ((HN.out.mp.kp HK2.out (fun e => map_ne_bl HN.out.mp HG.out e)).kept HX2.out)
    have HBM : Hid (W.heap.size ≤ bm ∧ bm < w2.heap.size ∧ bm < pb ∧ pb < w2.heap.size ∧ W.heap.size ≤ pb ∧ g < pb ∧ bm ≠ g ∧ w1.heap.size ≤ pb) := Lib.hid (by
     have h1 := HN.out.mp.lt
     have h2 := HK2.out.size
     have h3 := HP2.out.lt
     have h4 := HX2.out.size
     have h5 := HBX.out.size
     have h6 := HN.out.mo
     have h7 := HG.out.lt
     refine ⟨h6, by omega, by omega, h3, by omega, by omega, map_ne_bl HN.out.mp HG.out, by omega⟩)
    have HG3 := Lib.hid (HG2.out.kept HX2.out)
    have HO3 := Lib.hid (HO2.out.kept HX2.out)
    have HK3 : Hid (Kp (· = g) w1 w2) := Lib.hid (HK2.out.then HX2.out)
    have HB2 : Hid (Below W.heap.size W w2) := Lib.hid (HBX.out.trans (HX2.out.mono HBX.out.size))
    clear hpb HG2 HO2 HK2 HX2 HBX
    go_loopw [59] (fun iv wr => ∃ k : Nat, iv = .int .i64 (k : Int) ∧ k ≤ p ∧ Hid (MG Tryz.prog 90 odV (.bool false) wr bm (fun y => .bool (hasAt (ps.take k) y.1 y.2))) ∧ Hid (MG Tryz.prog 78 odV (.bool false) wr pb (fun y => .bool (hasIx (ps.take k) y.1 y.2))) ∧ Hid (Kp (fun b => b = bm ∨ b = pb) w2 wr)) (fun iv _ => p - (intOf iv).toNat)
    case atStart => exact ⟨0, rfl, by omega, Lib.hid (HM2.out.to (fun y => by simp [hasAt])), Lib.hid (HP2.out.to (fun y => by simp [hasIx])), Lib.hid (Kp.refl _ _)⟩
    case round =>
     obtain ⟨k, rfl, hk, hmd, hmp, hkp⟩ := hrel
     obtain ⟨wy, hwy⟩ : ∃ x, x = wr := ⟨_, rfl⟩
     rw [← hwy] at hmd hmp hkp ⊢
     clear hwy
     have HBy : Hid (Below W.heap.size W wy) := Lib.hid (((Kp.of_below (S := fun b => W.heap.size ≤ b) HB2.out).trans (hkp.out.mono (fun b _ e => by have := HBM.out; show W.heap.size ≤ b; omega))).below (Nat.le_refl _) (fun _ h => h))
     have HGy : Hid (BL wy g 100 _) := Lib.hid (hkp.out.bl HG3.out (fun e => by have := HBM.out; omega))
     by_cases hlt : k < p
     ·
      obtain ⟨y, gp, op, cs, hy, ep, hat, hr⟩ := LS.elem_at (HP.out.kept stay_pl HBy.out) hlt
      obtain ⟨rfl, hok⟩ := hr
      subst ep
      have HY := Lib.hid hy
      have HAY := Lib.hid hat
      have HKP : Hid (∃ lx, keyOf Tryz.prog 78 (odV (y.st, y.ix)) = some lx) := Lib.hid (keyPid y.st y.ix (reach_key hok.1) hok.2.1)
      have HKO := Lib.hid (keyOd (y.st, y.dv) ⟨hok.1, hok.2.2⟩)
      have HIN := Lib.hid (hasIx_next hy)
      have HAN := Lib.hid (hasAt_next hy)
      have hltI : (k : Int) < (p : Int) := by omega
      clear hy hat hok
      go_wp2_with (first
       | ((with_reducible show OpW 62); refine wpList_loadv _ rfl 85 (.tmp 61) rfl 3 (by kernel_rfl) gp (op + k * 3) (plL y) (by go_simp) HAY.out rfl ?_)
       | ((with_reducible show OpW 12); refine wpList_alloc _ rfl 85 rfl plZ plZero ?_; intro w3 a1 a2 a3; have HV3 := Lib.hid a1; have HX3 := Lib.hid a2; clear a1 a2 a3)
       | ((with_reducible show OpN); refine wpList_storev _ rfl 85 (.tmp 12) (.tmp 62) rfl 3 (by kernel_rfl) wy.heap.size 0 _ plZ (plL y) rfl rfl HV3.out rfl (one_pl y) (by decide) ?_; intro w4 a1 a2 a3; have HV4 : Hid (BL w4 wy.heap.size 85 (plL y)) := Lib.hid a1; have HX4 : Hid (Below wy.heap.size wy w4) := Lib.hid (((Kp.of_below (S := fun _ => False) HX3.out).after a2 (fun i hi e => by omega)).below (Nat.le_refl _) (fun _ h => h.elim)); clear a1 a2 a3; have HG4 := Lib.hid (HGy.out.kept HX4.out); have HMD4 := Lib.hid (hmd.out.kept HX4.out); have HMP4 := Lib.hid (hmp.out.kept HX4.out))
       | fail)
      have s3 := HG4.out.drew.get (j := 3) rfl
      have q0 := HV4.out.drew.get (j := 0) rfl
      have q2 := HV4.out.drew.get (j := 2) rfl
      refine Text.wp_region_text (fun _ => True) [(0, 4), (1, 4), (2, 4), (4, 4), (5, 4), (7, 4), (3, 1), (6, 1), (8, 1), (9, 0), (10, 3)] (by kernel_rfl) (by kernel_rfl) (fun _ _ _ _ _ h => h) (trivial) ?_
      iterate 6 (refine Text.purek rfl rfl (fun K hK => ⟨_, fun w' => by go_simp <;> rfl, ?_⟩); go_simp; refine hK _ ?_; clear hK K)
      iterate 3 (refine Text.readk rfl rfl (fun K hK => ⟨_, by go_simp <;> rfl, ?_⟩); go_simp; refine hK _ ?_; clear hK K)
      refine Text.heldk rfl rfl (fun K hK => ?_)
      refine ⟨_, fun w' hw' => exec_bld rfl (ps := #[(0, .string (strB y.st)), (1, .int .i64 y.dv)]) (by rw [List.map_toArray]; rfl) (bldOd _ _ _), ?_⟩
      refine hK _ ?_
      clear hK K
      refine Text.last rfl rfl (fun K hK => ?_)
      refine wp_updG _ odV_inj (.tmp 66) (.tmp 72) (.const (.bool true)) 88 90 4 rfl odKeyed mapOdB (.bool false) bm _ rfl (HMD4.out.kept (Below.refl _ _).drew) (y.st, y.dv) (.bool true) rfl rfl HKO.out ?_
      intro w5 a1 a2 a3
      have HMD5 := Lib.hid a1
      have hk5 : Kp (· = bm) w4 w5 := (Kp.refl _ w4).drew.trans a2
      have HK5 := Lib.hid hk5
      have HV5 := Lib.hid (hk5.bl HV4.out (fun e => by have := HBM.out; have := hkp.out.size; omega))
      have HMP5 := Lib.hid (HMP4.out.kp hk5 (fun e => by have := HBM.out; omega))
      clear a1 a2 a3 hk5 s3 q0 q2
      refine hK _ _ ?_
      clear hK K
      refine Text.done ?_
      go_wp2_with (first
       | ((with_reducible show OpW 75); refine wpList_loadv _ rfl 78 (.tmp 74) rfl 2 (by kernel_rfl) wy.heap.size 0 [.string (strB y.st), .int .i64 y.ix] rfl (At.pre (b := [.int .i64 y.dv]) (BL.all HV5.out)) rfl ?_)
       | ((with_reducible show OpN); refine wpList_updG _ odV_inj rfl (.tmp 73) (.tmp 75) (.const (.bool true)) 87 78 4 rfl pidKeyed mapPiB (.bool false) pb _ rfl HMP5.out (y.st, y.ix) (.bool true) rfl rfl HKP.out ?_; intro w6 a1 a2 a3; have HMP6 := Lib.hid a1; have HK6 := Lib.hid a2; have HMD6 := Lib.hid (HMD5.out.kp a2 (fun e => by have := HBM.out; omega)); clear a1 a2 a3))
      go_roundw
      case rel =>
       refine ⟨k + 1, by go_num, by omega, Lib.hid (HMD6.out.to (fun z => ?_)), Lib.hid (HMP6.out.to (fun z => ?_)), Lib.hid ?_⟩
       ·
        rw [HAN.out]; exact set_next _ z.1 y.st z.2 y.dv
       ·
        rw [HIN.out]; exact set_next _ z.1 y.st z.2 y.ix
       ·
        exact ((hkp.out.then HX4.out).trans (HK5.out.mono (fun b _ e => .inl e))).trans (HK6.out.mono (fun b _ e => .inr e))
      case measure => simp [intOf]; omega
     ·
      obtain rfl : k = p := by omega
      have hpt : ps.take k = ps := by rw [← HP.out.1, List.take_length]
      rw [hpt] at hmd hmp
      have HMD := hmd
      have HMP := hmp
      have HKB := hkp
      clear hpt hmd hmp hkp
      go_wp2_with fail
      have HG4 := HGy
      have HB4 := HBy
      have HK4 : Hid (Kp (fun b => b = g ∨ b = bm ∨ b = pb) w1 wy) := Lib.hid ((HK3.out.mono (fun b _ e => .inl e)).trans (HKB.out.mono (fun b _ e => .inr e)))
      have HGM : Hid (gm ≠ g ∧ gm ≠ bm ∧ gm ≠ pb ∧ gm < w1.heap.size ∧ W.heap.size ≤ gm ∧ w1.heap.size ≤ wy.heap.size) := Lib.hid (by
       have h9 : BL w2 gm 39 (List.replicate n nilI) := HK3.out.bl HN.out.m (fun e => by have := (HN.out.m.ty (by rw [show gm = g from e]; exact HG.out)); exact absurd this (by decide))
       refine ⟨fun e => absurd (HN.out.m.ty (by rw [e]; exact HG.out)) (by decide), fun e => map_ne_bl HN.out.mp HN.out.m e.symm, fun e => ?_, HN.out.m.lt, HN.out.mz, HK4.out.size⟩
       exact map_ne_bl HP2.out h9 e.symm)
      have HMI : Hid (MisB wy.heap.size wy gm n ws ps (List.replicate n nilI) 0) := Lib.hid ⟨HK4.out.bl HN.out.m (fun e => by have := HGM.out; omega), List.length_replicate, (fun j w' h => by omega), fun j _ hj => by rw [List.getElem?_replicate, if_pos hj]⟩
      have HMP4 := HMP
      go_loopw [79] (fun iv wr => ∃ (k : Nat) (csv : List Value), iv = .int .i64 (k : Int) ∧ k ≤ n ∧ Hid (MisB wy.heap.size wr gm n ws ps csv k) ∧ Hid (Kp (· = gm) wy wr)) (fun iv _ => n - (intOf iv).toNat)
      case atStart => exact ⟨0, _, rfl, by omega, HMI, Lib.hid (Kp.refl _ _)⟩
      case round =>
       obtain ⟨i, csv, rfl, hk, hmi, hkp⟩ := hrel
       obtain ⟨wz, hwz⟩ : ∃ x, x = wr := ⟨_, rfl⟩
       rw [← hwz] at hmi hkp ⊢
       clear hwz
       have HBz : Hid (Below W.heap.size W wz) := Lib.hid (((Kp.of_below (S := fun b => W.heap.size ≤ b) HB4.out).trans (hkp.out.mono (fun b _ e => by have := HGM.out; show W.heap.size ≤ b; omega))).below (Nat.le_refl _) (fun _ h => h))
       by_cases hlt : i < n
       ·
        obtain ⟨y, gw, ow, cs, hy, ew, hat, hr⟩ := LS.elem_at (H.out.kept stay_wt HBz.out) hlt
        obtain ⟨rfl, hok⟩ := hr
        subst ew
        have HY := Lib.hid hy
        have HAY := Lib.hid hat
        have HOK := Lib.hid hok
        have hltI : (i : Int) < (n : Int) := by omega
        have hto : 1 ≤ y.to ∧ y.to ≤ 16 := by
         unfold wantsB at hw
         simp only [Bool.and_eq_true, List.all_eq_true] at hw
         have := hw.1.2 y (List.mem_of_getElem? hy)
         simp [wtB] at this
         omega
        obtain ⟨tn, htn⟩ : ∃ t : Nat, y.to = (t : Int) := ⟨y.to.toNat, by omega⟩
        have HTN := Lib.hid htn
        have htl : tn ≤ 16 := by omega
        clear hy hat hok hto
        go_wp2_with (first
         | ((with_reducible show OpW 83); refine wpList_loadv _ rfl 74 (.tmp 82) rfl 4 (by kernel_rfl) gw (ow + i * 4) (wtL y) (by go_simp) HAY.out rfl ?_)
         | ((with_reducible show OpW 14); refine wpList_alloc _ rfl 74 rfl wtZ wtZero ?_; intro w3 a1 a2 a3; have HV3 := Lib.hid a1; have HX3 := Lib.hid a2; clear a1 a2 a3)
         | ((with_reducible show OpN); refine wpList_storev _ rfl 74 (.tmp 14) (.tmp 83) rfl 4 (by kernel_rfl) wz.heap.size 0 _ wtZ (wtL y) rfl rfl HV3.out rfl (one_wt y) (by decide) ?_; intro w4 a1 a2 a3; have HV4 : Hid (BL w4 wz.heap.size 74 (wtL y)) := Lib.hid a1; have HX4 : Hid (Below wz.heap.size wz w4) := Lib.hid (((Kp.of_below (S := fun _ => False) HX3.out).after a2 (fun i hi e => by omega)).below (Nat.le_refl _) (fun _ h => h.elim)); clear a1 a2 a3; have q3 := HV4.out.get (j := 3) rfl)
         | fail)
        have HX4' := HX4
        have HM4 : Hid (MisB wy.heap.size w4 gm n ws ps csv i) := Lib.hid (hmi.out.kp (S := fun _ => False) (Kp.of_below HX4.out) (fun h => h) (fun _ _ _ h => h))
        have HP4 : Hid (MG Tryz.prog 78 odV (.bool false) w4 pb (fun y => .bool (hasIx ps y.1 y.2))) := Lib.hid ((HMP4.out.kp hkp.out (fun e => by have := HGM.out; omega)).kept HX4.out)
        have HG5 : Hid (BL w4 g 100 _) := Lib.hid ((hkp.out.bl HG4.out (fun e => by have := HGM.out; omega)).kept HX4.out)
        have HVW := HV4
        have HKZ : Hid (Kp (· = gm) wy w4) := Lib.hid (hkp.out.then HX4.out)
        have HZZ : Hid (wz.heap.size < w4.heap.size ∧ wy.heap.size ≤ wz.heap.size ∧ gm < wz.heap.size) := Lib.hid ⟨HV4.out.lt, hkp.out.size, hmi.out.b.lt⟩
        have hset : csv.set i nilI = csv := by
         have h9 := hmi.out.r i (Nat.le_refl _) hlt
         obtain ⟨hl, he⟩ := List.getElem?_eq_some_iff.1 h9
         rw [← he]; exact List.set_getElem_self hl
        have HST := Lib.hid hset
        clear HV3 HX3 HV4 HX4 hset q3
        generalize w4 = wi at *
        go_loopw [86] (fun iv wr => ∃ (t : Nat) (v : Value), iv = .int .i64 (t : Int) ∧ t ≤ tn ∧ Hid (BL wr gm 39 (csv.set i v)) ∧ Hid (OwnI wr wi.heap.size v (((List.range t).map (fun k : Nat => (k : Int))).filter (fun i => !hasIx ps y.st i))) ∧ Hid (Kp (· = gm) wi wr)) (fun iv _ => tn - (intOf iv).toNat)
        case atStart => exact ⟨0, nilI, rfl, by omega, by rw [HST.out]; exact Lib.hid HM4.out.b, Lib.hid (OwnI.nil _ _), Lib.hid (Kp.refl _ _)⟩
        case round =>
         obtain ⟨t, v, rfl, ht, hbt, hov, hkt⟩ := hrel
         obtain ⟨wt, hwt⟩ : ∃ x, x = wr := ⟨_, rfl⟩
         rw [← hwt] at hbt hov hkt ⊢
         clear hwt
         have HGT : Hid (BL wt g 100 _) := Lib.hid (hkt.out.bl HG5.out (fun e => by have := HGM.out; omega))
         have HPT := Lib.hid (HP4.out.kp hkt.out (fun e => by have := HGM.out; omega))
         have HVT := Lib.hid (hkt.out.bl HVW.out (fun e => by have := HZZ.out; omega))
         by_cases hlt2 : t < tn
         ·
          have hltT : (t : Int) < y.to := by rw [HTN.out]; omega
          have q0 := HVT.out.get (j := 0) rfl
          have HKP : Hid (∃ lx, keyOf Tryz.prog 78 (odV (y.st, (t : Int))) = some lx) := Lib.hid (keyPid y.st (t : Int) (reach_key HOK.out.1) (wfI_of (by omega) (by omega)))
          have HNX := Lib.hid (wo_next (ps := ps) (w := y) (t := t))
          cases f1 : hasIx ps y.st (t : Int) with
          | true =>
           have HN0 : Hid (((List.range (t + 1)).map (fun k : Nat => (k : Int))).filter (fun i => !hasIx ps y.st i) = ((List.range t).map (fun k : Nat => (k : Int))).filter (fun i => !hasIx ps y.st i)) := Lib.hid (by rw [HNX.out, f1]; simp)
           clear HNX
           go_wp2_with (first
            | ((with_reducible show OpW 93); refine wpList_build _ rfl 78 _ rfl #[(0, .string (strB y.st)), (1, .int .i64 (t : Int))] (by rw [List.map_toArray]; rfl) (.agg #[.string (strB y.st), .int .i64 (t : Int)]) (bldPi _ _ _) ?_)
            | ((with_reducible show OpW 94); refine wpList_lookGv _ rfl (.tmp 89) (.tmp 93) 87 78 4 rfl pidKeyed mapPiB (.bool false) boolZero pb _ rfl HPT.out (y.st, (t : Int)) rfl HKP.out (.bool true) (by rw [f1]) ?_))
           go_roundw
           case rel => exact ⟨t + 1, v, by go_num, by omega, hbt, by rw [HN0.out]; exact hov, hkt⟩
           case measure => simp [intOf]; omega
          | false =>
           have HN0 : Hid (((List.range (t + 1)).map (fun k : Nat => (k : Int))).filter (fun i => !hasIx ps y.st i) = ((List.range t).map (fun k : Nat => (k : Int))).filter (fun i => !hasIx ps y.st i) ++ [(t : Int)]) := Lib.hid (by rw [HNX.out, f1]; simp)
           have HLN : Hid ((((List.range t).map (fun k : Nat => (k : Int))).filter (fun i => !hasIx ps y.st i)).length ≤ t) := Lib.hid (by
            refine Nat.le_trans (List.length_filter_le _ _) ?_
            simp)
           have HIL : Hid (i < csv.length) := Lib.hid (by rw [HM4.out.l]; exact hlt)
           clear HNX
           go_wp2_with (first
            | ((with_reducible show OpW 93); refine wpList_build _ rfl 78 _ rfl #[(0, .string (strB y.st)), (1, .int .i64 (t : Int))] (by rw [List.map_toArray]; rfl) (.agg #[.string (strB y.st), .int .i64 (t : Int)]) (bldPi _ _ _) ?_)
            | ((with_reducible show OpW 94); refine wpList_lookGv _ rfl (.tmp 89) (.tmp 93) 87 78 4 rfl pidKeyed mapPiB (.bool false) boolZero pb _ rfl HPT.out (y.st, (t : Int)) rfl HKP.out (.bool false) (by rw [f1]) ?_))
           have hci : ∀ (w9 : World), BL w9 gm 39 (csv.set i v) → w9.cell? ⟨gm, i, none⟩ = some v := fun w9 h9 => h9.get (j := i) (by rw [List.getElem?_set_self HIL.out])
           have HCI := Lib.hid hci
           clear hci
           refine Text.wp_region_text (fun w' => w'.cell? ⟨g, 4, none⟩ = some (.slice (some ⟨gm, 0, none⟩) n n) ∧ w'.cell? ⟨gm, i, none⟩ = some v) [(0, 4), (1, 4), (2, 4), (4, 4), (5, 4), (6, 4), (7, 4), (9, 4), (12, 4), (3, 0), (8, 0), (10, 4), (11, 0), (13, 2), (14, 2), (15, 4), (16, 3)] (by kernel_rfl) (by kernel_rfl) (fun _ _ _ _ _ h => h) (⟨HGT.out.drew.get (j := 4) rfl, HCI.out _ hbt.out.drew⟩) ?_
           iterate 9 (refine Text.purek rfl rfl (fun K hK => ⟨_, fun w' => by go_simp <;> rfl, ?_⟩); go_simp; refine hK _ ?_; clear hK K)
           iterate 2 (refine Text.heldk rfl rfl (fun K hK => ⟨_, fun w' hw' => by go_simp <;> rfl, ?_⟩); go_simp; refine hK _ ?_; clear hK K)
           (refine Text.purek rfl rfl (fun K hK => ⟨_, fun w' => by go_simp <;> rfl, ?_⟩); go_simp; refine hK _ ?_; clear hK K)
           (refine Text.heldk rfl rfl (fun K hK => ⟨_, fun w' hw' => by go_simp <;> rfl, ?_⟩); go_simp; refine hK _ ?_; clear hK K)
           refine Text.eff rfl rfl (fun K hK => ?_)
           refine wp_bslice 39 3 1 _ rfl #[(0, .int .i64 (t : Int))] (by rw [List.map_toArray]; rfl) [.int .i64 (t : Int)] (bslI _ _) ?_
           intro w6 a1 a2 a3
           have HS6 := Lib.hid a1
           have HX6 : Hid (Below wt.heap.size wt w6) := Lib.hid ((Below.refl _ wt).drew.trans a2)
           have HG6 := Lib.hid (HGT.out.kept HX6.out)
           have HB6 := Lib.hid (hbt.out.kept HX6.out)
           have HO6 := Lib.hid (hov.out.kept HX6.out)
           clear a1 a2 a3
           refine hK _ _ ⟨HG6.out.get (j := 4) rfl, HCI.out _ HB6.out⟩ ?_
           clear hK K
           refine Text.eff rfl rfl (fun K hK => ?_)
           obtain ⟨iS, i1, i2, i3, i4⟩ := info_some infoI
           refine wp_appRW _ (.tmp 107) (.tmp 109) 39 3 1 iS _ rfl Tryz.underlying39 i1 i2 i3 rfl v _ _ rfl HO6.out.1 _ _ rfl HS6.out rfl (fun u hu => by rw [List.mem_singleton.1 hu]; rfl) (by rw [i4]; have := HLN.out; omega) (by have := HLN.out; omega) ?_
           intro v' w7 a1
           have HO7 := Lib.hid (HO6.out.push a1 (by have := hkt.out.size; have := HX6.out.size; omega))
           have HG7 := Lib.hid (a1.bl HO6.out.1 HG6.out (by decide))
           have HB7 : Hid (BL w7 gm 39 (csv.set i v)) := Lib.hid (a1.bl HO6.out.1 HB6.out (by decide))
           have HK7 : Hid (Kp (· = gm) wi w7) := Lib.hid ((hkt.out.then HX6.out).after a1.kp (fun b hb e => by have := HO6.out.2 b e; omega))
           clear a1 i1 i2 i3 i4
           refine hK _ _ ⟨HG7.out.get (j := 4) rfl, HCI.out _ HB7.out⟩ ?_
           clear hK K
           (refine Text.purek rfl rfl (fun K hK => ⟨_, fun w' => by go_simp <;> rfl, ?_⟩); go_simp; refine hK _ ?_; clear hK K)
           refine Text.last rfl rfl (fun K hK => ?_)
           obtain ⟨A7, c7, e7, _⟩ := HO7.out.1.form
           refine wp_store1 39 (.tmp 111) (.tmp 110) rfl (sz1 _ (by kernel_rfl) _) gm i _ _ v' rfl rfl HB7.out (by rw [e7]; rfl) (by rw [e7]; rfl) (by rw [List.length_set]; exact HIL.out) ?_
           intro w8 a1 a2 a3
           have HB8 : Hid (BL w8 gm 39 (csv.set i v')) := Lib.hid (by rw [List.set_set] at a1; exact a1)
           have HO8 := Lib.hid (show OwnI w8 wi.heap.size v' _ from ⟨HO7.out.1.kp a2 (fun b hb e => HO7.out.1.ne_bl HB7.out (by decide) b hb e), HO7.out.2⟩)
           have HK8 := Lib.hid (HK7.out.trans a2)
           clear a1 a2 a3 e7
           refine hK _ _ ?_
           clear hK K
           refine Text.done ?_
           go_wp2_with fail
           go_roundw
           case rel => exact ⟨t + 1, v', by go_num, by omega, HB8, by rw [HN0.out]; exact HO8, HK8⟩
           case measure => simp [intOf]; omega
         ·
          obtain rfl : t = tn := by omega
          have hltT : ¬ (t : Int) < y.to := by rw [HTN.out]; omega
          have HWO : Hid (((List.range t).map (fun k : Nat => (k : Int))).filter (fun i => !hasIx ps y.st i) = withoutL y ps) := Lib.hid (by unfold withoutL upI; rw [HTN.out, Int.toNat_natCast])
          rw [HWO.out] at hov
          go_wp2_with fail
          go_roundw
          case rel =>
           refine ⟨i + 1, _, by go_num, by omega, Lib.hid (HM4.out.next hkt.out hbt.out HY.out ⟨hov.out.1, fun b hb => by have := hov.out.2 b hb; have := HZZ.out; omega⟩ hlt), Lib.hid (HKZ.out.trans hkt.out)⟩
          case measure => simp [intOf]; omega
       ·
        obtain rfl : i = n := by omega
        go_wp2_with fail
        go_ret
        have hnp : BL w1 gc 39 (List.replicate i nilI) := HN.out.c
        have hgcg : gc ≠ g := fun e => absurd (HN.out.c.ty (by rw [e]; exact HG.out)) (by decide)
        have hgcm : gc ≠ gm := fun e => HN.out.ne e.symm
        have hgcb : gc ≠ bm := fun e => map_ne_bl HN.out.mp HN.out.c e.symm
        have hgcp : gc < w1.heap.size := HN.out.c.lt
        have hK5 : Kp (fun b => (b = g ∨ b = bm ∨ b = pb) ∨ b = gm) w1 wz := (HK4.out.mono (fun b _ h => .inl h)).trans (hkp.out.mono (fun b _ h => .inr h))
        have hpb1 : w1.heap.size ≤ pb := by have h9 := HBM.out; omega
        have hvg : ∀ b, v.ownBlock = some b → b ≠ g := fun b hb e => HO3.out.1.ne_bl HG3.out (by decide) b hb e
        have hvl : ∀ b, v.ownBlock = some b → b < w2.heap.size ∧ w1.heap.size ≤ b := fun b hb => ⟨HO3.out.1.lt hb, HO3.out.2 b hb⟩
        have hvp : ∀ b, v.ownBlock = some b → b ≠ pb := fun b hb e => by
         obtain ⟨cs9, h9⟩ := HO3.out.1.ty hb
         exact map_ne_bl HP2.out h9 e.symm
        have hbm1 : bm < w1.heap.size := HN.out.mp.lt
        have hK2y : Kp (fun b => b = bm ∨ b = pb) w2 wy := HKB.out
        refine ⟨⟨g, A, c, A', c', v, bm, some ⟨gm, 0, none⟩, i, gc, i, .nilFunc, .nilFunc⟩, gm, csv, rfl, ⟨rfl, rfl, rfl, rfl, rfl, rfl, rfl⟩, hkp.out.bl HG4.out (fun e => HGM.out.1 (Eq.symm e)), HN.out.h.kp hK5 (fun b hb e => ?_), HN.out.ho, HMD.out.kp hkp.out (fun e => HGM.out.2.1 (Eq.symm e)), ?_, ?_, hK5.bl hnp (fun e => ?_), ⟨HGZ.out, HN.out.mo, HN.out.mz, HN.out.cz⟩, fun e => hgcm e.symm, ?_, ?_⟩
        ·
         obtain ⟨cs9, h9⟩ := HN.out.h.ty hb
         have hbl := HN.out.h.lt hb
         rcases e with (e | e | e) | e
         ·
          exact HN.out.h.ne_bl HG.out (by decide) b hb e
         ·
          exact map_ne_bl HN.out.mp h9 e.symm
         ·
          omega
         ·
          exact HN.out.h.ne_bl HN.out.m (by decide) b hb e
        ·
         exact ⟨hmi.out.b, hmi.out.l, fun j w0 hj hw0 => let ⟨u, e1, e2⟩ := hmi.out.d j w0 hj hw0; ⟨u, e1, e2.1, fun b hb => by have := e2.2 b hb; have := HB4.out.size; omega⟩, hmi.out.r⟩
        ·
         refine ⟨((HO3.out.1.kp hK2y (fun b hb e => ?_)).kp hkp.out (fun b hb e => ?_)), fun b hb => by have := (hvl b hb).2; have := HBW.out.size; omega⟩
         ·
          rcases e with e | e
          ·
           have := (hvl b hb).2; omega
          ·
           exact hvp b hb e
         ·
          have h7 := (hvl b hb).2; have h8 := HGM.out; have h9 : b = gm := e; omega
        ·
         rcases e with (e | e | e) | e
         ·
          exact hgcg e
         ·
          exact hgcb e
         ·
          have e9 : gc = pb := e; omega
         ·
          exact hgcm e
        ·
         intro j w0 u b hw0 hu hb hvb
         obtain ⟨u', e1, e2⟩ := hmi.out.d j w0 (by have h9 := (List.getElem?_eq_some_iff.1 hw0).1; have := H.out.1; omega) hw0
         rw [hu] at e1
         cases e1
         have h7 := e2.2 b hb
         have h8 := (hvl b hvb).1
         have h9 := hK2y.size
         omega
        ·
         exact HBz.out
end
end Go.Proofs.YtklfficlegfhjaaGreat
