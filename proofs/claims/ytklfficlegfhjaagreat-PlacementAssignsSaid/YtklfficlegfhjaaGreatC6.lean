/- Several texts in one: Qj, Qk, Ql, Qm, Qn. -/
import Derived.Test.YtklfficlegfhjaaGreatC4
import Derived.Test.YtklfficlegfhjaaGreatC5
/- How wants, holders and places lie in memory. -/
namespace Go.Proofs.YtklfficlegfhjaaGreat
open Go Go.RowKit Gf Sha

theorem wfI_of {z : Int} (h1 : -9223372036854775808 ≤ z) (h2 : z < 9223372036854775808) : wfI z := by
 unfold wfI
 simp [Lit.wf, IntKind.min, IntKind.max, IntKind.signed, IntKind.bits] <;> omega
abbrev wtL (w : Wt) : List Value := [.string (strB w.st), .int .i64 w.sz, .int .i64 w.da, .int .i64 w.to]
abbrev hdL (h : Hd) : List Value := [.int .i64 h.dv, .int .i64 h.qt, .int .i64 h.wt]
abbrev plL (p : Pl) : List Value := [.string (strB p.st), .int .i64 p.ix, .int .i64 p.dv]
def okWt (w : Wt) : Prop := w.st.length ≤ reachBytes ∧ wfI w.sz ∧ wfI w.da ∧ wfI w.to
def okHd (h : Hd) : Prop := wfI h.dv ∧ wfI h.qt ∧ wfI h.wt
def okPl (p : Pl) : Prop := p.st.length ≤ reachBytes ∧ wfI p.ix ∧ wfI p.dv
def rWt : Rdg Wt := fun _ cs w => cs = wtL w ∧ okWt w
def rHd : Rdg Hd := fun _ cs h => cs = hdL h ∧ okHd h
def rPl : Rdg Pl := fun _ cs p => cs = plL p ∧ okPl p
theorem stay_wt : Stay rWt := fun _ _ _ _ h _ => h
theorem stay_hd : Stay rHd := fun _ _ _ _ h _ => h
theorem stay_pl : Stay rPl := fun _ _ _ _ h _ => h
theorem len_wt {w : World} (cs : List Value) (x : Wt) (h : rWt w cs x) : cs.length = 4 := by rw [h.1]; rfl
theorem len_hd {w : World} (cs : List Value) (x : Hd) (h : rHd w cs x) : cs.length = 3 := by rw [h.1]; rfl
theorem len_pl {w : World} (cs : List Value) (x : Pl) (h : rPl w cs x) : cs.length = 3 := by rw [h.1]; rfl
theorem one_wt (x : Wt) : ∀ v ∈ wtL x, v.oneCell' = true := fun v hv => by
 simp only [List.mem_cons, List.not_mem_nil, or_false] at hv
 rcases hv with rfl | rfl | rfl | rfl <;> rfl
theorem one_hd (x : Hd) : ∀ v ∈ hdL x, v.oneCell' = true := fun v hv => by
 simp only [List.mem_cons, List.not_mem_nil, or_false] at hv
 rcases hv with rfl | rfl | rfl <;> rfl
theorem one_pl (x : Pl) : ∀ v ∈ plL x, v.oneCell' = true := fun v hv => by
 simp only [List.mem_cons, List.not_mem_nil, or_false] at hv
 rcases hv with rfl | rfl | rfl <;> rfl
end Go.Proofs.YtklfficlegfhjaaGreat
/- slices.IndexFunc with the closures of find and validHolders; find. -/
namespace Go.Proofs.YtklfficlegfhjaaGreat
open Go Go.RowKit Gf Sha

def idxP {α : Type} (p : α → Bool) (L : List α) (r : Int) : Prop := (r = -1 ∧ ∀ x ∈ L, p x = false) ∨ ∃ (i : Nat) (x : α), r = (i : Int) ∧ L[i]? = some x ∧ p x = true ∧ ∀ y ∈ L.take i, p y = false
theorem idx_of {α : Type} (p : α → Bool) : ∀ (L : List α) (r : Int), idxP p L r → r = match L.findIdx? p with | some i => (i : Int) | none => -1
 | [], r, h => by
  rcases h with ⟨h, _⟩ | ⟨i, x, _, h, _⟩
  ·
   exact h
  ·
   cases h
 | x :: L, r, h => by
  rw [List.findIdx?_cons]
  cases hx : p x with
  | true =>
   rcases h with ⟨_, h⟩ | ⟨i, y, h1, h2, h3, h4⟩
   ·
    rw [h x (by simp)] at hx; cases hx
   ·
    cases i with
    | zero => exact h1
    | succ i => rw [h4 x (by simp)] at hx; cases hx
  | false =>
   have ih := idx_of p L
   rcases h with ⟨h, h'⟩ | ⟨i, y, h1, h2, h3, h4⟩
   ·
    have := ih (-1) (.inl ⟨rfl, fun y hy => h' y (by simp [hy])⟩)
    cases hf : L.findIdx? p with
    | none => simpa using h
    | some k => rw [hf] at this; simp at this
   ·
    cases i with
    | zero => simp at h2; subst h2; rw [h3] at hx; cases hx
    | succ i =>
     have := ih (i : Int) (.inr ⟨i, y, rfl, by simpa using h2, h3, fun z hz => h4 z (by simp [hz])⟩)
     cases hf : L.findIdx? p with
     | none => rw [hf] at this; exact absurd this (by show ¬ (i : Int) = -1; omega)
     | some k =>
      rw [hf] at this
      have h9 : (i : Int) = (k : Int) := this
      show r = ((k + 1 : Nat) : Int)
      omega
set_option maxRecDepth 100000 in
set_option maxHeartbeats 2000000 in
theorem idx_wt (A : Option Addr) (n c gc : Nat) (L : List Wt) (p : Wt → Bool) (w : World) (C : World → Prop) (hL : LS rWt 4 40 w A n c L) (hC : C w) (hCk : ∀ w1 w2, C w1 → Below w1.heap.size w1 w2 → C w2)
  (hf : ∀ w1 x, C w1 → Calls Tryz.prog 62 #[.agg (wtL x).toArray, .pointer (some ⟨gc, 0, none⟩)] w1 fun e w2 => e = .returned (.bool (p x)) ∧ Below w1.heap.size w1 w2) :
  Calls Tryz.prog 61 #[.slice A n c, .func (.func 62) #[] #[.pointer (some ⟨gc, 0, none⟩)]] w fun e w' => ∃ r, e = .returned (.int .i64 r) ∧ idxP p L r ∧ Below w.heap.size w w' := by
 have hn := hL.len_le
 have H := Lib.hid hL
 have HL := Lib.hid hL.1
 have HC := Lib.hid hC
 have HCK := Lib.hid hCk
 have HF := Lib.hid hf
 clear hL hC hCk hf
 go_enter Tryz.func61, Tryz.ntmps61
 go_wp2_with fail
 go_loopw [8] (fun iv wr => ∃ k : Nat, k ≤ n ∧ iv = .int .i64 (k : Int) ∧ Hid (∀ x ∈ L.take k, p x = false) ∧ Hid (Below w.heap.size w wr)) (fun iv _ => n - (intOf iv).toNat)
 case atStart => exact ⟨0, by omega, rfl, Lib.hid (fun x hx => by simp at hx), Lib.hid (Below.refl _ _)⟩
 case round =>
  obtain ⟨k, hk, rfl, hall, hb⟩ := hrel
  obtain ⟨wx, hwx⟩ : ∃ x, x = wr := ⟨_, rfl⟩
  rw [← hwx] at hb ⊢
  clear hwx
  by_cases hlt : k < n
  ·
   obtain ⟨x, g, o, cs, hs, ea, hat, hr⟩ := H.out.at_ stay_wt hb.out hlt
   obtain ⟨rfl, _⟩ := hr
   have HX := Lib.hid hs
   have HA := Lib.hid hat
   subst ea
   clear hs hat
   cases h1 : p x with
   | true =>
    go_wp2_with (first
     | ((with_reducible show OpW 15); refine wpList_loadv _ rfl 74 (.tmp 14) rfl 4 (by kernel_rfl) g (o + k * 4) (wtL x) (by go_simp) HA.out rfl ?_)
     | (go_at_call 62; refine (HF.out wx x (HCK.out _ _ HC.out hb.out)).mono ?_; rintro e w2 ⟨rfl, bl⟩; rw [h1]; have HX2 := Lib.hid bl; clear bl))
    go_ret
    exact ⟨(k : Int), rfl, .inr ⟨k, x, rfl, HX.out, h1, hall.out⟩, below_thenB hb.out hb.out.size HX2.out⟩
   | false =>
    have HALL : Hid (∀ x ∈ L.take (k + 1), p x = false) := Lib.hid (fun y hy => by
     rw [take_next HX.out] at hy
     rcases List.mem_append.1 hy with h | h
     ·
      exact hall.out y h
     ·
      rw [List.mem_singleton.1 h]; exact h1)
    go_wp2_with (first
     | ((with_reducible show OpW 15); refine wpList_loadv _ rfl 74 (.tmp 14) rfl 4 (by kernel_rfl) g (o + k * 4) (wtL x) (by go_simp) HA.out rfl ?_)
     | (go_at_call 62; refine (HF.out wx x (HCK.out _ _ HC.out hb.out)).mono ?_; rintro e w2 ⟨rfl, bl⟩; rw [h1]; have HX2 := Lib.hid bl; clear bl))
    go_roundw
    case rel => exact ⟨k + 1, by omega, by go_num, HALL, Lib.hid (below_thenB hb.out hb.out.size HX2.out)⟩
    case measure => simp [intOf]; omega
  ·
   obtain rfl : k = n := by omega
   go_wp2_with fail
   go_ret
   exact ⟨-1, rfl, .inl ⟨rfl, fun x hx => hall.out x (by rw [take_end HL.out]; exact hx)⟩, hb.out⟩
set_option maxRecDepth 100000 in
set_option maxHeartbeats 2000000 in
theorem idx_hd (A : Option Addr) (n c gc : Nat) (L : List Hd) (p : Hd → Bool) (w : World) (C : World → Prop) (hL : LS rHd 3 24 w A n c L) (hC : C w) (hCk : ∀ w1 w2, C w1 → Below w1.heap.size w1 w2 → C w2)
  (hf : ∀ w1 x, C w1 → Calls Tryz.prog 60 #[.agg (hdL x).toArray, .pointer (some ⟨gc, 0, none⟩)] w1 fun e w2 => e = .returned (.bool (p x)) ∧ Below w1.heap.size w1 w2) :
  Calls Tryz.prog 59 #[.slice A n c, .func (.func 60) #[] #[.pointer (some ⟨gc, 0, none⟩)]] w fun e w' => ∃ r, e = .returned (.int .i64 r) ∧ idxP p L r ∧ Below w.heap.size w w' := by
 have hn := hL.len_le
 have H := Lib.hid hL
 have HL := Lib.hid hL.1
 have HC := Lib.hid hC
 have HCK := Lib.hid hCk
 have HF := Lib.hid hf
 clear hL hC hCk hf
 go_enter Tryz.func59, Tryz.ntmps59
 go_wp2_with fail
 go_loopw [8] (fun iv wr => ∃ k : Nat, k ≤ n ∧ iv = .int .i64 (k : Int) ∧ Hid (∀ x ∈ L.take k, p x = false) ∧ Hid (Below w.heap.size w wr)) (fun iv _ => n - (intOf iv).toNat)
 case atStart => exact ⟨0, by omega, rfl, Lib.hid (fun x hx => by simp at hx), Lib.hid (Below.refl _ _)⟩
 case round =>
  obtain ⟨k, hk, rfl, hall, hb⟩ := hrel
  obtain ⟨wx, hwx⟩ : ∃ x, x = wr := ⟨_, rfl⟩
  rw [← hwx] at hb ⊢
  clear hwx
  by_cases hlt : k < n
  ·
   obtain ⟨x, g, o, cs, hs, ea, hat, hr⟩ := H.out.at_ stay_hd hb.out hlt
   obtain ⟨rfl, _⟩ := hr
   have HX := Lib.hid hs
   have HA := Lib.hid hat
   subst ea
   clear hs hat
   cases h1 : p x with
   | true =>
    go_wp2_with (first
     | ((with_reducible show OpW 15); refine wpList_loadv _ rfl 76 (.tmp 14) rfl 3 (by kernel_rfl) g (o + k * 3) (hdL x) (by go_simp) HA.out rfl ?_)
     | (go_at_call 60; refine (HF.out wx x (HCK.out _ _ HC.out hb.out)).mono ?_; rintro e w2 ⟨rfl, bl⟩; rw [h1]; have HX2 := Lib.hid bl; clear bl))
    go_ret
    exact ⟨(k : Int), rfl, .inr ⟨k, x, rfl, HX.out, h1, hall.out⟩, below_thenB hb.out hb.out.size HX2.out⟩
   | false =>
    have HALL : Hid (∀ x ∈ L.take (k + 1), p x = false) := Lib.hid (fun y hy => by
     rw [take_next HX.out] at hy
     rcases List.mem_append.1 hy with h | h
     ·
      exact hall.out y h
     ·
      rw [List.mem_singleton.1 h]; exact h1)
    go_wp2_with (first
     | ((with_reducible show OpW 15); refine wpList_loadv _ rfl 76 (.tmp 14) rfl 3 (by kernel_rfl) g (o + k * 3) (hdL x) (by go_simp) HA.out rfl ?_)
     | (go_at_call 60; refine (HF.out wx x (HCK.out _ _ HC.out hb.out)).mono ?_; rintro e w2 ⟨rfl, bl⟩; rw [h1]; have HX2 := Lib.hid bl; clear bl))
    go_roundw
    case rel => exact ⟨k + 1, by omega, by go_num, HALL, Lib.hid (below_thenB hb.out hb.out.size HX2.out)⟩
    case measure => simp [intOf]; omega
  ·
   obtain rfl : k = n := by omega
   go_wp2_with fail
   go_ret
   exact ⟨-1, rfl, .inl ⟨rfl, fun x hx => hall.out x (by rw [take_end HL.out]; exact hx)⟩, hb.out⟩
section
set_option maxRecDepth 100000
set_option maxHeartbeats 1000000
theorem find1_any (x : Wt) (gc : Nat) (s : List UInt8) (w : World) (hg : w.cell? ⟨gc, 0, none⟩ = some (.string (strB s))) :
  Calls Tryz.prog 62 #[.agg (wtL x).toArray, .pointer (some ⟨gc, 0, none⟩)] w fun e w' => e = .returned (.bool (decide (x.st = s))) ∧ Below w.heap.size w w' := by
 have e1 : ((strB x.st).toList == (strB s).toList) = decide (x.st = s) := strB_eq _ _
 have HG := Lib.hid hg
 clear hg
 go_enter Tryz.func62, Tryz.ntmps62
 go_wp2_with (first
  | ((with_reducible show OpW 2); refine wpList_box _ rfl 74 (.tmp 0) rfl (wtL x) rfl ?_; intro wa a1 a2 a3; have HGa := Lib.hid a1; have HBa := Lib.hid a2; have q0 := HGa.out.get (j := 0) rfl; have qs := cell_kept HBa.out HG.out; clear a1 a2 a3))
 go_ret
 exact ⟨rfl, HBa.out⟩
theorem hold1_any (x : Hd) (gc : Nat) (h : Hd) (w : World) (hg : BL w gc 76 (hdL h)) :
  Calls Tryz.prog 60 #[.agg (hdL x).toArray, .pointer (some ⟨gc, 0, none⟩)] w fun e w' => e = .returned (.bool (decide (x.dv = h.dv))) ∧ Below w.heap.size w w' := by
 have e1 : (x.dv == h.dv) = decide (x.dv = h.dv) := rfl
 have HG := Lib.hid hg
 clear hg
 go_enter Tryz.func60, Tryz.ntmps60
 go_wp2_with (first
  | ((with_reducible show OpW 2); refine wpList_box _ rfl 76 (.tmp 0) rfl (hdL x) rfl ?_; intro wa a1 a2 a3; have HGa := Lib.hid a1; have HBa := Lib.hid a2; have q0 := HGa.out.get (j := 0) rfl; have qs := (HG.out.kept HBa.out).get (j := 0) rfl; clear a1 a2 a3))
 go_ret
 exact ⟨rfl, HBa.out⟩
theorem find_any (A : Option Addr) (n c : Nat) (ws : List Wt) (s : List UInt8) (w : World) (h : LS rWt 4 40 w A n c ws) :
  Calls Tryz.prog 44 #[.slice A n c, .string (strB s)] w fun e w' => e = .returned (.int .i64 (fdI ws s)) ∧ Below w.heap.size w w' := by
 have H := Lib.hid h
 clear h
 go_enter Tryz.func44, Tryz.ntmps44
 go_wp2_with (first
  | ((with_reducible show OpW 3); refine wpList_box1 _ rfl 9 (.tmp 1) rfl _ rfl rfl ?_; intro wa a1 a2 a3; have HGa := Lib.hid a1; have HBa := Lib.hid a2; clear a1 a2 a3)
  | (go_at_call 61; refine (idx_wt A n c w.heap.size ws (fun x => decide (x.st = s)) wa (fun w1 => w1.cell? ⟨w.heap.size, 0, none⟩ = some (.string (strB s))) (H.out.kept stay_wt HBa.out) (HGa.out.get (j := 0) rfl) (fun w1 w2 h1 h2 => cell_kept h2 h1) (fun w1 x h1 => find1_any x _ s w1 h1)).mono ?_; rintro e w2 ⟨r, rfl, hr, b1⟩; have HR := Lib.hid hr; have HB2 := Lib.hid (below_then HBa.out b1); clear hr b1))
 go_ret
 exact ⟨by rw [idx_of _ _ _ HR.out]; rfl, HB2.out⟩
end
end Go.Proofs.YtklfficlegfhjaaGreat
/- Wants and holders are valid; places are known; used bytes. (Printed by wip/gen_ql.py.) -/
namespace Go.Proofs.YtklfficlegfhjaaGreat
open Go Go.RowKit Gf Sha

def wtZ : List Value := [.string (strB []), .int .i64 0, .int .i64 0, .int .i64 0]
def hdZ : List Value := [.int .i64 0, .int .i64 0, .int .i64 0]
def plZ : List Value := [.string (strB []), .int .i64 0, .int .i64 0]
theorem wtZero : (Tryz.prog.info? 74).map (·.zero) = some (some (.agg wtZ.toArray)) := by kernel_rfl
theorem hdZero : (Tryz.prog.info? 76).map (·.zero) = some (some (.agg hdZ.toArray)) := by kernel_rfl
theorem plZero : (Tryz.prog.info? 85).map (·.zero) = some (some (.agg plZ.toArray)) := by kernel_rfl
theorem infoHd : (Tryz.prog.info? 76).map (fun i => (i.zero, i.size, i.bytes)) = some (some (.agg hdZ.toArray), 3, 24) := by kernel_rfl
theorem infoPl : (Tryz.prog.info? 85).map (fun i => (i.zero, i.size, i.bytes)) = some (some (.agg plZ.toArray), 3, 32) := by kernel_rfl
theorem fdI_cases (ws : List Wt) (s : List UInt8) : (fdI ws s = -1 ∧ wat ws s = none) ∨ ∃ (i : Nat) (w : Wt), fdI ws s = (i : Int) ∧ ws[i]? = some w ∧ wat ws s = some w := by
 induction ws with
 | nil => exact .inl ⟨rfl, rfl⟩
 | cons v ws ih =>
  by_cases h : v.st = s
  ·
   refine .inr ⟨0, v, ?_, rfl, ?_⟩
   ·
    unfold fdI; rw [List.findIdx?_cons, decide_eq_true h]; rfl
   ·
    unfold wat; rw [List.find?_cons, decide_eq_true h]
  ·
   have e1 : wat (v :: ws) s = wat ws s := by unfold wat; rw [List.find?_cons, decide_eq_false h]
   rw [e1]
   have e2 : fdI (v :: ws) s = if fdI ws s = -1 then -1 else fdI ws s + 1 := by
    unfold fdI
    rw [List.findIdx?_cons, decide_eq_false h]
    cases ws.findIdx? (fun w => decide (w.st = s)) with
    | none => rfl
    | some k => first | (simp; done) | (simp; omega)
   rcases ih with ⟨h1, h2⟩ | ⟨i, w, h1, h2, h3⟩
   ·
    exact .inl ⟨by rw [e2, h1]; rfl, h2⟩
   ·
    exact .inr ⟨i + 1, w, by rw [e2, h1, if_neg (by omega)]; omega, by simpa using h2, h3⟩
def gfi {α : Type} (q : α → Bool) (l : List α) : Int := match l.findIdx? q with
 | some i => (i : Int)
 | none => -1
theorem gfi_cons {α : Type} (q : α → Bool) (v : α) (l : List α) : gfi q (v :: l) = if q v = true then 0 else if gfi q l = -1 then -1 else gfi q l + 1 := by
 unfold gfi
 rw [List.findIdx?_cons]
 cases q v with
 | true => rfl
 | false =>
  cases l.findIdx? q with
  | none => rfl
  | some k => first | (simp; done) | (simp; omega)
theorem gfi_ge {α : Type} (q : α → Bool) (l : List α) : -1 ≤ gfi q l := by
 unfold gfi
 cases l.findIdx? q with
 | none => exact Int.le_refl _
 | some k => show (-1 : Int) ≤ (k : Int); omega
/-- The first of its kind. -/
theorem gfi_first {α β : Type} [DecidableEq β] {f : α → β} : ∀ {l : List α} {k : Nat} {x : α}, l[k]? = some x → (gfi (fun y => decide (f y = f x)) l = (k : Int) ↔ ∀ v ∈ l.take k, f v ≠ f x)
 | [], _, _, hk => by cases hk
 | v :: l, 0, x, hk => by
  have : v = x := by simpa using hk
  subst this
  rw [gfi_cons, if_pos (by simp)]
  constructor
  ·
   intro _ u hu; simp at hu
  ·
   intro _; rfl
 | v :: l, k + 1, x, hk => by
  have ih := gfi_first (f := f) (l := l) (k := k) (x := x) (by simpa using hk)
  have h3 := gfi_ge (fun y => decide (f y = f x)) l
  rw [gfi_cons]
  by_cases h : f v = f x
  ·
   rw [if_pos (by simp [h])]
   constructor
   ·
    intro h1; omega
   ·
    intro h1; exact absurd h (h1 v (by simp))
  ·
   rw [if_neg (by simp [h])]
   constructor
   ·
    intro h1 u hu
    rw [List.take_succ_cons] at hu
    rcases List.mem_cons.1 hu with rfl | hu
    ·
     exact h
    ·
     refine ih.1 ?_ u hu
     split at h1 <;> omega
   ·
    intro h1
    have := ih.2 (fun u hu => h1 u (by rw [List.take_succ_cons]; simp [hu]))
    rw [if_neg (by omega), this]; omega
theorem fdI_first {ws : List Wt} {k : Nat} {w : Wt} (hk : ws[k]? = some w) : fdI ws w.st = (k : Int) ↔ ∀ v ∈ ws.take k, v.st ≠ w.st := gfi_first (f := Wt.st) hk
def hxI (hs : List Hd) (d : Int) : Int := gfi (fun h => decide (h.dv = d)) hs
theorem hxI_first {hs : List Hd} {k : Nat} {h : Hd} (hk : hs[k]? = some h) : hxI hs h.dv = (k : Int) ↔ ∀ v ∈ hs.take k, v.dv ≠ h.dv := gfi_first (f := Hd.dv) hk
theorem nodup_first {α β : Type} {f : α → β} {l : List α} (h : ∀ (k : Nat) (x : α), l[k]? = some x → ∀ v ∈ l.take k, f v ≠ f x) : (l.map f).Nodup := by
 rw [List.Nodup, List.pairwise_map, List.pairwise_iff_getElem]
 intro i j hi hj hij
 exact h j l[j] (List.getElem?_eq_getElem hj) _ (List.mem_take_iff_getElem.2 ⟨i, by omega, rfl⟩)
theorem nodup_not {α β : Type} {f : α → β} {l : List α} {k : Nat} {x v : α} (hk : l[k]? = some x) (hv : v ∈ l.take k) (e : f v = f x) : ¬ (l.map f).Nodup := fun h => by
 rw [List.Nodup, List.pairwise_map, List.pairwise_iff_getElem] at h
 obtain ⟨i, hi, rfl⟩ := List.mem_take_iff_getElem.1 hv
 obtain ⟨hk', rfl⟩ := List.getElem?_eq_some_iff.1 hk
 exact h i k (by omega) hk' (by omega) e

section
set_option maxRecDepth 100000
set_option maxHeartbeats 2000000
theorem wants_any (A : Option Addr) (n c : Nat) (l : List Wt) (w : World) (h : LS rWt 4 40 w A n c l) :
  Calls Tryz.prog 41 #[.slice A n c] w fun e w' => e = .returned (.bool (wantsB l)) ∧ Below w.heap.size w w' := by
 have hn := h.len_le
 have H := Lib.hid h
 have HL := Lib.hid h.1
 clear h
 cases f0 : decide ((8 : Int) < (n : Int)) with
 | true =>
  have HR : Hid (wantsB l = false) := Lib.hid (by
   unfold wantsB
   have := of_decide_eq_true f0
   rw [decide_eq_false (by rw [HL.out]; omega)]; rfl)
  go_enter Tryz.func41, Tryz.ntmps41
  go_wp2_with fail
  go_ret
  exact ⟨by rw [HR.out]; rfl, Below.refl _ _⟩
 | false =>
  have HLE : Hid (n ≤ 8) := Lib.hid (by have := of_decide_eq_false f0; omega)
  go_enter Tryz.func41, Tryz.ntmps41
  go_wp2_with fail
  go_loopw [10] (fun iv wr => ∃ k : Nat, k ≤ n ∧ iv = .int .i64 (k : Int) ∧ Hid ((∀ x ∈ l.take k, wtB x = true) ∧ ∀ (j : Nat) (x : Wt), j < k → l[j]? = some x → ∀ v ∈ l.take j, Wt.st v ≠ Wt.st x) ∧ Hid (Below w.heap.size w wr)) (fun iv _ => n - (intOf iv).toNat)
  case atStart => exact ⟨0, by omega, rfl, Lib.hid ⟨fun x hx => by simp at hx, fun j x hj => by omega⟩, Lib.hid (Below.refl _ _)⟩
  case round =>
   obtain ⟨k, hk, rfl, hg, hb⟩ := hrel
   obtain ⟨wx, hwx⟩ : ∃ x, x = wr := ⟨_, rfl⟩
   rw [← hwx] at hb ⊢
   clear hwx f0
   by_cases hlt : k < n
   ·
    obtain ⟨x, g, o, cs, hs, ea, hat, hr⟩ := H.out.at_ stay_wt hb.out hlt
    obtain ⟨rfl, hok⟩ := hr
    have HX := Lib.hid hs
    have HA := Lib.hid hat
    have HM : Hid (x ∈ l) := Lib.hid (List.mem_of_getElem? hs)
    have HBAD : Hid (wtB x = false → wantsB l = false) := Lib.hid (fun h1 => by
     unfold wantsB
     have h2 : l.all wtB = false := List.all_eq_false.2 ⟨x, HM.out, by rw [h1]; decide⟩
     rw [h2, Bool.and_false, Bool.false_and])
    subst ea
    clear hs hat
    cases f1 : decide (x.sz < 1) with
    | true =>
     have HR : Hid (wantsB l = false) := Lib.hid (HBAD.out (by have := of_decide_eq_true f1; unfold wtB; rw [decide_eq_false]; omega))
     clear hok
     go_wp2_with (first
      | ((with_reducible show OpW 14); refine wpList_loadv _ rfl 74 (.tmp 13) rfl 4 (by kernel_rfl) g (o + k * 4) (wtL x) (by go_simp) HA.out rfl ?_)
      | ((with_reducible show OpW 4); refine wpList_alloc _ rfl 74 rfl wtZ wtZero ?_; intro w3 a1 a2 a3; have HV3 := Lib.hid a1; have HX3 := Lib.hid a2; clear a1 a2 a3)
      | ((with_reducible show OpN); refine wpList_storev _ rfl 74 (.tmp 4) (.tmp 14) rfl 4 (by kernel_rfl) wx.heap.size 0 _ wtZ (wtL x) rfl rfl HV3.out rfl (one_wt x) (by decide) ?_; intro w4 a1 a2 a3; have HV4 : Hid (BL w4 wx.heap.size 74 (wtL x)) := Lib.hid a1; have HX4 : Hid (Below wx.heap.size wx w4) := Lib.hid (((Kp.of_below (S := fun _ => False) HX3.out).after a2 (fun i hi e => by omega)).below (Nat.le_refl _) (fun _ h => h.elim)); clear a1 a2 a3; have HB4 := Lib.hid (below_thenB hb.out hb.out.size HX4.out); have q0 := HV4.out.get (j := 0) rfl; have q1 := HV4.out.get (j := 1) rfl; have q2 := HV4.out.get (j := 2) rfl; have q3 := HV4.out.get (j := 3) rfl))
     go_ret
     exact ⟨by rw [HR.out]; rfl, HB4.out⟩
    | false =>
     cases f2 : decide (65536 < x.sz) with
     | true =>
      have HR : Hid (wantsB l = false) := Lib.hid (HBAD.out (by have := of_decide_eq_true f2; unfold wtB; rw [decide_eq_false]; omega))
      clear hok
      go_wp2_with (first
       | ((with_reducible show OpW 14); refine wpList_loadv _ rfl 74 (.tmp 13) rfl 4 (by kernel_rfl) g (o + k * 4) (wtL x) (by go_simp) HA.out rfl ?_)
       | ((with_reducible show OpW 4); refine wpList_alloc _ rfl 74 rfl wtZ wtZero ?_; intro w3 a1 a2 a3; have HV3 := Lib.hid a1; have HX3 := Lib.hid a2; clear a1 a2 a3)
       | ((with_reducible show OpN); refine wpList_storev _ rfl 74 (.tmp 4) (.tmp 14) rfl 4 (by kernel_rfl) wx.heap.size 0 _ wtZ (wtL x) rfl rfl HV3.out rfl (one_wt x) (by decide) ?_; intro w4 a1 a2 a3; have HV4 : Hid (BL w4 wx.heap.size 74 (wtL x)) := Lib.hid a1; have HX4 : Hid (Below wx.heap.size wx w4) := Lib.hid (((Kp.of_below (S := fun _ => False) HX3.out).after a2 (fun i hi e => by omega)).below (Nat.le_refl _) (fun _ h => h.elim)); clear a1 a2 a3; have HB4 := Lib.hid (below_thenB hb.out hb.out.size HX4.out); have q0 := HV4.out.get (j := 0) rfl; have q1 := HV4.out.get (j := 1) rfl; have q2 := HV4.out.get (j := 2) rfl; have q3 := HV4.out.get (j := 3) rfl))
      go_ret
      exact ⟨by rw [HR.out]; rfl, HB4.out⟩
     | false =>
      cases f3 : decide (x.da < 1) with
      | true =>
       have HR : Hid (wantsB l = false) := Lib.hid (HBAD.out (by have := of_decide_eq_true f3; unfold wtB; rw [decide_eq_false]; omega))
       clear hok
       go_wp2_with (first
        | ((with_reducible show OpW 14); refine wpList_loadv _ rfl 74 (.tmp 13) rfl 4 (by kernel_rfl) g (o + k * 4) (wtL x) (by go_simp) HA.out rfl ?_)
        | ((with_reducible show OpW 4); refine wpList_alloc _ rfl 74 rfl wtZ wtZero ?_; intro w3 a1 a2 a3; have HV3 := Lib.hid a1; have HX3 := Lib.hid a2; clear a1 a2 a3)
        | ((with_reducible show OpN); refine wpList_storev _ rfl 74 (.tmp 4) (.tmp 14) rfl 4 (by kernel_rfl) wx.heap.size 0 _ wtZ (wtL x) rfl rfl HV3.out rfl (one_wt x) (by decide) ?_; intro w4 a1 a2 a3; have HV4 : Hid (BL w4 wx.heap.size 74 (wtL x)) := Lib.hid a1; have HX4 : Hid (Below wx.heap.size wx w4) := Lib.hid (((Kp.of_below (S := fun _ => False) HX3.out).after a2 (fun i hi e => by omega)).below (Nat.le_refl _) (fun _ h => h.elim)); clear a1 a2 a3; have HB4 := Lib.hid (below_thenB hb.out hb.out.size HX4.out); have q0 := HV4.out.get (j := 0) rfl; have q1 := HV4.out.get (j := 1) rfl; have q2 := HV4.out.get (j := 2) rfl; have q3 := HV4.out.get (j := 3) rfl))
       go_ret
       exact ⟨by rw [HR.out]; rfl, HB4.out⟩
      | false =>
       cases f4 : decide (8 < x.da) with
       | true =>
        have HR : Hid (wantsB l = false) := Lib.hid (HBAD.out (by have := of_decide_eq_true f4; unfold wtB; rw [decide_eq_false]; omega))
        clear hok
        go_wp2_with (first
         | ((with_reducible show OpW 14); refine wpList_loadv _ rfl 74 (.tmp 13) rfl 4 (by kernel_rfl) g (o + k * 4) (wtL x) (by go_simp) HA.out rfl ?_)
         | ((with_reducible show OpW 4); refine wpList_alloc _ rfl 74 rfl wtZ wtZero ?_; intro w3 a1 a2 a3; have HV3 := Lib.hid a1; have HX3 := Lib.hid a2; clear a1 a2 a3)
         | ((with_reducible show OpN); refine wpList_storev _ rfl 74 (.tmp 4) (.tmp 14) rfl 4 (by kernel_rfl) wx.heap.size 0 _ wtZ (wtL x) rfl rfl HV3.out rfl (one_wt x) (by decide) ?_; intro w4 a1 a2 a3; have HV4 : Hid (BL w4 wx.heap.size 74 (wtL x)) := Lib.hid a1; have HX4 : Hid (Below wx.heap.size wx w4) := Lib.hid (((Kp.of_below (S := fun _ => False) HX3.out).after a2 (fun i hi e => by omega)).below (Nat.le_refl _) (fun _ h => h.elim)); clear a1 a2 a3; have HB4 := Lib.hid (below_thenB hb.out hb.out.size HX4.out); have q0 := HV4.out.get (j := 0) rfl; have q1 := HV4.out.get (j := 1) rfl; have q2 := HV4.out.get (j := 2) rfl; have q3 := HV4.out.get (j := 3) rfl))
        go_ret
        exact ⟨by rw [HR.out]; rfl, HB4.out⟩
       | false =>
        cases f5 : decide (x.to < x.da) with
        | true =>
         have HR : Hid (wantsB l = false) := Lib.hid (HBAD.out (by have := of_decide_eq_true f5; unfold wtB; rw [decide_eq_false]; omega))
         clear hok
         go_wp2_with (first
          | ((with_reducible show OpW 14); refine wpList_loadv _ rfl 74 (.tmp 13) rfl 4 (by kernel_rfl) g (o + k * 4) (wtL x) (by go_simp) HA.out rfl ?_)
          | ((with_reducible show OpW 4); refine wpList_alloc _ rfl 74 rfl wtZ wtZero ?_; intro w3 a1 a2 a3; have HV3 := Lib.hid a1; have HX3 := Lib.hid a2; clear a1 a2 a3)
          | ((with_reducible show OpN); refine wpList_storev _ rfl 74 (.tmp 4) (.tmp 14) rfl 4 (by kernel_rfl) wx.heap.size 0 _ wtZ (wtL x) rfl rfl HV3.out rfl (one_wt x) (by decide) ?_; intro w4 a1 a2 a3; have HV4 : Hid (BL w4 wx.heap.size 74 (wtL x)) := Lib.hid a1; have HX4 : Hid (Below wx.heap.size wx w4) := Lib.hid (((Kp.of_below (S := fun _ => False) HX3.out).after a2 (fun i hi e => by omega)).below (Nat.le_refl _) (fun _ h => h.elim)); clear a1 a2 a3; have HB4 := Lib.hid (below_thenB hb.out hb.out.size HX4.out); have q0 := HV4.out.get (j := 0) rfl; have q1 := HV4.out.get (j := 1) rfl; have q2 := HV4.out.get (j := 2) rfl; have q3 := HV4.out.get (j := 3) rfl))
         go_ret
         exact ⟨by rw [HR.out]; rfl, HB4.out⟩
        | false =>
         cases f6 : decide (16 < x.to) with
         | true =>
          have HR : Hid (wantsB l = false) := Lib.hid (HBAD.out (by have := of_decide_eq_true f6; unfold wtB; rw [decide_eq_false]; omega))
          clear hok
          go_wp2_with (first
           | ((with_reducible show OpW 14); refine wpList_loadv _ rfl 74 (.tmp 13) rfl 4 (by kernel_rfl) g (o + k * 4) (wtL x) (by go_simp) HA.out rfl ?_)
           | ((with_reducible show OpW 4); refine wpList_alloc _ rfl 74 rfl wtZ wtZero ?_; intro w3 a1 a2 a3; have HV3 := Lib.hid a1; have HX3 := Lib.hid a2; clear a1 a2 a3)
           | ((with_reducible show OpN); refine wpList_storev _ rfl 74 (.tmp 4) (.tmp 14) rfl 4 (by kernel_rfl) wx.heap.size 0 _ wtZ (wtL x) rfl rfl HV3.out rfl (one_wt x) (by decide) ?_; intro w4 a1 a2 a3; have HV4 : Hid (BL w4 wx.heap.size 74 (wtL x)) := Lib.hid a1; have HX4 : Hid (Below wx.heap.size wx w4) := Lib.hid (((Kp.of_below (S := fun _ => False) HX3.out).after a2 (fun i hi e => by omega)).below (Nat.le_refl _) (fun _ h => h.elim)); clear a1 a2 a3; have HB4 := Lib.hid (below_thenB hb.out hb.out.size HX4.out); have q0 := HV4.out.get (j := 0) rfl; have q1 := HV4.out.get (j := 1) rfl; have q2 := HV4.out.get (j := 2) rfl; have q3 := HV4.out.get (j := 3) rfl))
          go_ret
          exact ⟨by rw [HR.out]; rfl, HB4.out⟩
         | false =>
          have HGD : Hid (wtB x = true) := Lib.hid (by have h1 := of_decide_eq_false f1; have h2 := of_decide_eq_false f2; have h3 := of_decide_eq_false f3; have h4 := of_decide_eq_false f4; have h5 := of_decide_eq_false f5; have h6 := of_decide_eq_false f6; unfold wtB; rw [decide_eq_true]; omega)
          have HG2 : Hid (∀ y ∈ l.take (k + 1), wtB y = true) := Lib.hid (fun y hy => by
           rw [take_next HX.out] at hy
           rcases List.mem_append.1 hy with h | h
           ·
            exact hg.out.1 y h
           ·
            rw [List.mem_singleton.1 h]; exact HGD.out)
          clear hok HBAD HGD
          obtain ⟨z, hz⟩ : ∃ z, z = fdI l x.st := ⟨_, rfl⟩
          have HZ := Lib.hid hz.symm
          clear hz
          by_cases hzk : z = (k : Int)
          ·
           subst hzk
           have HD : Hid (∀ v ∈ l.take k, Wt.st v ≠ Wt.st x) := Lib.hid ((fdI_first HX.out).1 HZ.out)
           go_wp2_with (first
            | ((with_reducible show OpW 14); refine wpList_loadv _ rfl 74 (.tmp 13) rfl 4 (by kernel_rfl) g (o + k * 4) (wtL x) (by go_simp) HA.out rfl ?_)
            | ((with_reducible show OpW 4); refine wpList_alloc _ rfl 74 rfl wtZ wtZero ?_; intro w3 a1 a2 a3; have HV3 := Lib.hid a1; have HX3 := Lib.hid a2; clear a1 a2 a3)
            | ((with_reducible show OpN); refine wpList_storev _ rfl 74 (.tmp 4) (.tmp 14) rfl 4 (by kernel_rfl) wx.heap.size 0 _ wtZ (wtL x) rfl rfl HV3.out rfl (one_wt x) (by decide) ?_; intro w4 a1 a2 a3; have HV4 : Hid (BL w4 wx.heap.size 74 (wtL x)) := Lib.hid a1; have HX4 : Hid (Below wx.heap.size wx w4) := Lib.hid (((Kp.of_below (S := fun _ => False) HX3.out).after a2 (fun i hi e => by omega)).below (Nat.le_refl _) (fun _ h => h.elim)); clear a1 a2 a3; have HB4 := Lib.hid (below_thenB hb.out hb.out.size HX4.out); have q0 := HV4.out.get (j := 0) rfl; have q1 := HV4.out.get (j := 1) rfl; have q2 := HV4.out.get (j := 2) rfl; have q3 := HV4.out.get (j := 3) rfl)
            | (go_at_call 44; refine (find_any _ n c l x.st w4 (H.out.kept stay_wt HB4.out)).mono ?_; rintro e w5 ⟨rfl, b5⟩; rw [HZ.out]; have HB5 := Lib.hid (below_then HB4.out b5); clear b5))
           go_roundw
           case rel => exact ⟨k + 1, by omega, by go_num, Lib.hid ⟨HG2.out, fun j y hj hy => by
            by_cases e : j = k
            ·
             subst e
             rw [HX.out] at hy; cases hy; exact HD.out
            ·
             exact hg.out.2 j y (by omega) hy⟩, Lib.hid HB5.out⟩
           case measure => simp [intOf]; omega
          ·
           have HR : Hid (wantsB l = false) := Lib.hid (by
            have h1 : ¬ ∀ v ∈ l.take k, Wt.st v ≠ Wt.st x := fun h => hzk (HZ.out.symm.trans ((fdI_first HX.out).2 h))
            obtain ⟨v, hv⟩ := Classical.not_forall.1 h1
            obtain ⟨hv1, hv2⟩ := Classical.not_imp.1 hv
            unfold wantsB
            rw [decide_eq_false (nodup_not (f := Wt.st) HX.out hv1 (Classical.not_not.1 hv2)), Bool.and_false])
           have fz : (z != (k : Int)) = true := by rw [bne_iff_ne]; exact hzk
           go_wp2_with (first
            | ((with_reducible show OpW 14); refine wpList_loadv _ rfl 74 (.tmp 13) rfl 4 (by kernel_rfl) g (o + k * 4) (wtL x) (by go_simp) HA.out rfl ?_)
            | ((with_reducible show OpW 4); refine wpList_alloc _ rfl 74 rfl wtZ wtZero ?_; intro w3 a1 a2 a3; have HV3 := Lib.hid a1; have HX3 := Lib.hid a2; clear a1 a2 a3)
            | ((with_reducible show OpN); refine wpList_storev _ rfl 74 (.tmp 4) (.tmp 14) rfl 4 (by kernel_rfl) wx.heap.size 0 _ wtZ (wtL x) rfl rfl HV3.out rfl (one_wt x) (by decide) ?_; intro w4 a1 a2 a3; have HV4 : Hid (BL w4 wx.heap.size 74 (wtL x)) := Lib.hid a1; have HX4 : Hid (Below wx.heap.size wx w4) := Lib.hid (((Kp.of_below (S := fun _ => False) HX3.out).after a2 (fun i hi e => by omega)).below (Nat.le_refl _) (fun _ h => h.elim)); clear a1 a2 a3; have HB4 := Lib.hid (below_thenB hb.out hb.out.size HX4.out); have q0 := HV4.out.get (j := 0) rfl; have q1 := HV4.out.get (j := 1) rfl; have q2 := HV4.out.get (j := 2) rfl; have q3 := HV4.out.get (j := 3) rfl)
            | (go_at_call 44; refine (find_any _ n c l x.st w4 (H.out.kept stay_wt HB4.out)).mono ?_; rintro e w5 ⟨rfl, b5⟩; rw [HZ.out]; have HB5 := Lib.hid (below_then HB4.out b5); clear b5))
           go_ret
           exact ⟨by rw [HR.out]; rfl, HB5.out⟩
   ·
    obtain rfl : k = n := by omega
    have HR : Hid (wantsB l = true) := Lib.hid (by
     obtain ⟨h1, h2⟩ := hg.out
     rw [take_end HL.out] at h1
     unfold wantsB
     rw [decide_eq_true (by rw [HL.out]; exact HLE.out), List.all_eq_true.2 h1, decide_eq_true (nodup_first (f := Wt.st) (fun j x hj v hv => h2 j x (by have := (List.getElem?_eq_some_iff.1 hj).1; have := HL.out; omega) hj v hv))]; rfl)
    go_wp2_with fail
    go_ret
    exact ⟨by rw [HR.out]; rfl, hb.out⟩
end
section
set_option maxRecDepth 100000
set_option maxHeartbeats 2000000
theorem holders_any (A : Option Addr) (n c : Nat) (l : List Hd) (w : World) (h : LS rHd 3 24 w A n c l) :
  Calls Tryz.prog 42 #[.slice A n c] w fun e w' => e = .returned (.bool (holdersB l)) ∧ Below w.heap.size w w' := by
 have hn := h.len_le
 have H := Lib.hid h
 have HL := Lib.hid h.1
 clear h
 cases f0 : decide ((12 : Int) < (n : Int)) with
 | true =>
  have HR : Hid (holdersB l = false) := Lib.hid (by
   unfold holdersB
   have := of_decide_eq_true f0
   rw [decide_eq_false (by rw [HL.out]; omega)]; rfl)
  go_enter Tryz.func42, Tryz.ntmps42
  go_wp2_with fail
  go_ret
  exact ⟨by rw [HR.out]; rfl, Below.refl _ _⟩
 | false =>
  have HLE : Hid (n ≤ 12) := Lib.hid (by have := of_decide_eq_false f0; omega)
  go_enter Tryz.func42, Tryz.ntmps42
  go_wp2_with fail
  go_loopw [10] (fun iv wr => ∃ k : Nat, k ≤ n ∧ iv = .int .i64 (k : Int) ∧ Hid ((∀ x ∈ l.take k, hdB x = true) ∧ ∀ (j : Nat) (x : Hd), j < k → l[j]? = some x → ∀ v ∈ l.take j, Hd.dv v ≠ Hd.dv x) ∧ Hid (Below w.heap.size w wr)) (fun iv _ => n - (intOf iv).toNat)
  case atStart => exact ⟨0, by omega, rfl, Lib.hid ⟨fun x hx => by simp at hx, fun j x hj => by omega⟩, Lib.hid (Below.refl _ _)⟩
  case round =>
   obtain ⟨k, hk, rfl, hg, hb⟩ := hrel
   obtain ⟨wx, hwx⟩ : ∃ x, x = wr := ⟨_, rfl⟩
   rw [← hwx] at hb ⊢
   clear hwx f0
   by_cases hlt : k < n
   ·
    obtain ⟨x, g, o, cs, hs, ea, hat, hr⟩ := H.out.at_ stay_hd hb.out hlt
    obtain ⟨rfl, hok⟩ := hr
    have HX := Lib.hid hs
    have HA := Lib.hid hat
    have HM : Hid (x ∈ l) := Lib.hid (List.mem_of_getElem? hs)
    have HBAD : Hid (hdB x = false → holdersB l = false) := Lib.hid (fun h1 => by
     unfold holdersB
     have h2 : l.all hdB = false := List.all_eq_false.2 ⟨x, HM.out, by rw [h1]; decide⟩
     rw [h2, Bool.and_false, Bool.false_and])
    subst ea
    clear hs hat
    cases f1 : decide (x.dv < 0) with
    | true =>
     have HR : Hid (holdersB l = false) := Lib.hid (HBAD.out (by have := of_decide_eq_true f1; unfold hdB; rw [decide_eq_false]; omega))
     clear hok
     go_wp2_with (first
      | ((with_reducible show OpW 14); refine wpList_loadv _ rfl 76 (.tmp 13) rfl 3 (by kernel_rfl) g (o + k * 3) (hdL x) (by go_simp) HA.out rfl ?_)
      | ((with_reducible show OpW 4); refine wpList_alloc _ rfl 76 rfl hdZ hdZero ?_; intro w3 a1 a2 a3; have HV3 := Lib.hid a1; have HX3 := Lib.hid a2; clear a1 a2 a3)
      | ((with_reducible show OpN); refine wpList_storev _ rfl 76 (.tmp 4) (.tmp 14) rfl 3 (by kernel_rfl) wx.heap.size 0 _ hdZ (hdL x) rfl rfl HV3.out rfl (one_hd x) (by decide) ?_; intro w4 a1 a2 a3; have HV4 : Hid (BL w4 wx.heap.size 76 (hdL x)) := Lib.hid a1; have HX4 : Hid (Below wx.heap.size wx w4) := Lib.hid (((Kp.of_below (S := fun _ => False) HX3.out).after a2 (fun i hi e => by omega)).below (Nat.le_refl _) (fun _ h => h.elim)); clear a1 a2 a3; have HB4 := Lib.hid (below_thenB hb.out hb.out.size HX4.out); have q0 := HV4.out.get (j := 0) rfl; have q1 := HV4.out.get (j := 1) rfl; have q2 := HV4.out.get (j := 2) rfl))
     go_ret
     exact ⟨by rw [HR.out]; rfl, HB4.out⟩
    | false =>
     cases f2 : decide (12 ≤ x.dv) with
     | true =>
      have HR : Hid (holdersB l = false) := Lib.hid (HBAD.out (by have := of_decide_eq_true f2; unfold hdB; rw [decide_eq_false]; omega))
      clear hok
      go_wp2_with (first
       | ((with_reducible show OpW 14); refine wpList_loadv _ rfl 76 (.tmp 13) rfl 3 (by kernel_rfl) g (o + k * 3) (hdL x) (by go_simp) HA.out rfl ?_)
       | ((with_reducible show OpW 4); refine wpList_alloc _ rfl 76 rfl hdZ hdZero ?_; intro w3 a1 a2 a3; have HV3 := Lib.hid a1; have HX3 := Lib.hid a2; clear a1 a2 a3)
       | ((with_reducible show OpN); refine wpList_storev _ rfl 76 (.tmp 4) (.tmp 14) rfl 3 (by kernel_rfl) wx.heap.size 0 _ hdZ (hdL x) rfl rfl HV3.out rfl (one_hd x) (by decide) ?_; intro w4 a1 a2 a3; have HV4 : Hid (BL w4 wx.heap.size 76 (hdL x)) := Lib.hid a1; have HX4 : Hid (Below wx.heap.size wx w4) := Lib.hid (((Kp.of_below (S := fun _ => False) HX3.out).after a2 (fun i hi e => by omega)).below (Nat.le_refl _) (fun _ h => h.elim)); clear a1 a2 a3; have HB4 := Lib.hid (below_thenB hb.out hb.out.size HX4.out); have q0 := HV4.out.get (j := 0) rfl; have q1 := HV4.out.get (j := 1) rfl; have q2 := HV4.out.get (j := 2) rfl))
      go_ret
      exact ⟨by rw [HR.out]; rfl, HB4.out⟩
     | false =>
      cases f3 : decide (x.qt < 0) with
      | true =>
       have HR : Hid (holdersB l = false) := Lib.hid (HBAD.out (by have := of_decide_eq_true f3; unfold hdB; rw [decide_eq_false]; omega))
       clear hok
       go_wp2_with (first
        | ((with_reducible show OpW 14); refine wpList_loadv _ rfl 76 (.tmp 13) rfl 3 (by kernel_rfl) g (o + k * 3) (hdL x) (by go_simp) HA.out rfl ?_)
        | ((with_reducible show OpW 4); refine wpList_alloc _ rfl 76 rfl hdZ hdZero ?_; intro w3 a1 a2 a3; have HV3 := Lib.hid a1; have HX3 := Lib.hid a2; clear a1 a2 a3)
        | ((with_reducible show OpN); refine wpList_storev _ rfl 76 (.tmp 4) (.tmp 14) rfl 3 (by kernel_rfl) wx.heap.size 0 _ hdZ (hdL x) rfl rfl HV3.out rfl (one_hd x) (by decide) ?_; intro w4 a1 a2 a3; have HV4 : Hid (BL w4 wx.heap.size 76 (hdL x)) := Lib.hid a1; have HX4 : Hid (Below wx.heap.size wx w4) := Lib.hid (((Kp.of_below (S := fun _ => False) HX3.out).after a2 (fun i hi e => by omega)).below (Nat.le_refl _) (fun _ h => h.elim)); clear a1 a2 a3; have HB4 := Lib.hid (below_thenB hb.out hb.out.size HX4.out); have q0 := HV4.out.get (j := 0) rfl; have q1 := HV4.out.get (j := 1) rfl; have q2 := HV4.out.get (j := 2) rfl))
       go_ret
       exact ⟨by rw [HR.out]; rfl, HB4.out⟩
      | false =>
       cases f4 : decide (1099511627776 < x.qt) with
       | true =>
        have HR : Hid (holdersB l = false) := Lib.hid (HBAD.out (by have := of_decide_eq_true f4; unfold hdB; rw [decide_eq_false]; omega))
        clear hok
        go_wp2_with (first
         | ((with_reducible show OpW 14); refine wpList_loadv _ rfl 76 (.tmp 13) rfl 3 (by kernel_rfl) g (o + k * 3) (hdL x) (by go_simp) HA.out rfl ?_)
         | ((with_reducible show OpW 4); refine wpList_alloc _ rfl 76 rfl hdZ hdZero ?_; intro w3 a1 a2 a3; have HV3 := Lib.hid a1; have HX3 := Lib.hid a2; clear a1 a2 a3)
         | ((with_reducible show OpN); refine wpList_storev _ rfl 76 (.tmp 4) (.tmp 14) rfl 3 (by kernel_rfl) wx.heap.size 0 _ hdZ (hdL x) rfl rfl HV3.out rfl (one_hd x) (by decide) ?_; intro w4 a1 a2 a3; have HV4 : Hid (BL w4 wx.heap.size 76 (hdL x)) := Lib.hid a1; have HX4 : Hid (Below wx.heap.size wx w4) := Lib.hid (((Kp.of_below (S := fun _ => False) HX3.out).after a2 (fun i hi e => by omega)).below (Nat.le_refl _) (fun _ h => h.elim)); clear a1 a2 a3; have HB4 := Lib.hid (below_thenB hb.out hb.out.size HX4.out); have q0 := HV4.out.get (j := 0) rfl; have q1 := HV4.out.get (j := 1) rfl; have q2 := HV4.out.get (j := 2) rfl))
        go_ret
        exact ⟨by rw [HR.out]; rfl, HB4.out⟩
       | false =>
        cases f5 : decide (x.wt < 0) with
        | true =>
         have HR : Hid (holdersB l = false) := Lib.hid (HBAD.out (by have := of_decide_eq_true f5; unfold hdB; rw [decide_eq_false]; omega))
         clear hok
         go_wp2_with (first
          | ((with_reducible show OpW 14); refine wpList_loadv _ rfl 76 (.tmp 13) rfl 3 (by kernel_rfl) g (o + k * 3) (hdL x) (by go_simp) HA.out rfl ?_)
          | ((with_reducible show OpW 4); refine wpList_alloc _ rfl 76 rfl hdZ hdZero ?_; intro w3 a1 a2 a3; have HV3 := Lib.hid a1; have HX3 := Lib.hid a2; clear a1 a2 a3)
          | ((with_reducible show OpN); refine wpList_storev _ rfl 76 (.tmp 4) (.tmp 14) rfl 3 (by kernel_rfl) wx.heap.size 0 _ hdZ (hdL x) rfl rfl HV3.out rfl (one_hd x) (by decide) ?_; intro w4 a1 a2 a3; have HV4 : Hid (BL w4 wx.heap.size 76 (hdL x)) := Lib.hid a1; have HX4 : Hid (Below wx.heap.size wx w4) := Lib.hid (((Kp.of_below (S := fun _ => False) HX3.out).after a2 (fun i hi e => by omega)).below (Nat.le_refl _) (fun _ h => h.elim)); clear a1 a2 a3; have HB4 := Lib.hid (below_thenB hb.out hb.out.size HX4.out); have q0 := HV4.out.get (j := 0) rfl; have q1 := HV4.out.get (j := 1) rfl; have q2 := HV4.out.get (j := 2) rfl))
         go_ret
         exact ⟨by rw [HR.out]; rfl, HB4.out⟩
        | false =>
         cases f6 : decide (1099511627776 < x.wt) with
         | true =>
          have HR : Hid (holdersB l = false) := Lib.hid (HBAD.out (by have := of_decide_eq_true f6; unfold hdB; rw [decide_eq_false]; omega))
          clear hok
          go_wp2_with (first
           | ((with_reducible show OpW 14); refine wpList_loadv _ rfl 76 (.tmp 13) rfl 3 (by kernel_rfl) g (o + k * 3) (hdL x) (by go_simp) HA.out rfl ?_)
           | ((with_reducible show OpW 4); refine wpList_alloc _ rfl 76 rfl hdZ hdZero ?_; intro w3 a1 a2 a3; have HV3 := Lib.hid a1; have HX3 := Lib.hid a2; clear a1 a2 a3)
           | ((with_reducible show OpN); refine wpList_storev _ rfl 76 (.tmp 4) (.tmp 14) rfl 3 (by kernel_rfl) wx.heap.size 0 _ hdZ (hdL x) rfl rfl HV3.out rfl (one_hd x) (by decide) ?_; intro w4 a1 a2 a3; have HV4 : Hid (BL w4 wx.heap.size 76 (hdL x)) := Lib.hid a1; have HX4 : Hid (Below wx.heap.size wx w4) := Lib.hid (((Kp.of_below (S := fun _ => False) HX3.out).after a2 (fun i hi e => by omega)).below (Nat.le_refl _) (fun _ h => h.elim)); clear a1 a2 a3; have HB4 := Lib.hid (below_thenB hb.out hb.out.size HX4.out); have q0 := HV4.out.get (j := 0) rfl; have q1 := HV4.out.get (j := 1) rfl; have q2 := HV4.out.get (j := 2) rfl))
          go_ret
          exact ⟨by rw [HR.out]; rfl, HB4.out⟩
         | false =>
          have HGD : Hid (hdB x = true) := Lib.hid (by have h1 := of_decide_eq_false f1; have h2 := of_decide_eq_false f2; have h3 := of_decide_eq_false f3; have h4 := of_decide_eq_false f4; have h5 := of_decide_eq_false f5; have h6 := of_decide_eq_false f6; unfold hdB; rw [decide_eq_true]; omega)
          have HG2 : Hid (∀ y ∈ l.take (k + 1), hdB y = true) := Lib.hid (fun y hy => by
           rw [take_next HX.out] at hy
           rcases List.mem_append.1 hy with h | h
           ·
            exact hg.out.1 y h
           ·
            rw [List.mem_singleton.1 h]; exact HGD.out)
          clear hok HBAD HGD
          obtain ⟨z, hz⟩ : ∃ z, z = hxI l x.dv := ⟨_, rfl⟩
          have HZ := Lib.hid hz.symm
          clear hz
          by_cases hzk : z = (k : Int)
          ·
           subst hzk
           have HD : Hid (∀ v ∈ l.take k, Hd.dv v ≠ Hd.dv x) := Lib.hid ((hxI_first HX.out).1 HZ.out)
           go_wp2_with (first
            | ((with_reducible show OpW 14); refine wpList_loadv _ rfl 76 (.tmp 13) rfl 3 (by kernel_rfl) g (o + k * 3) (hdL x) (by go_simp) HA.out rfl ?_)
            | ((with_reducible show OpW 4); refine wpList_alloc _ rfl 76 rfl hdZ hdZero ?_; intro w3 a1 a2 a3; have HV3 := Lib.hid a1; have HX3 := Lib.hid a2; clear a1 a2 a3)
            | ((with_reducible show OpN); refine wpList_storev _ rfl 76 (.tmp 4) (.tmp 14) rfl 3 (by kernel_rfl) wx.heap.size 0 _ hdZ (hdL x) rfl rfl HV3.out rfl (one_hd x) (by decide) ?_; intro w4 a1 a2 a3; have HV4 : Hid (BL w4 wx.heap.size 76 (hdL x)) := Lib.hid a1; have HX4 : Hid (Below wx.heap.size wx w4) := Lib.hid (((Kp.of_below (S := fun _ => False) HX3.out).after a2 (fun i hi e => by omega)).below (Nat.le_refl _) (fun _ h => h.elim)); clear a1 a2 a3; have HB4 := Lib.hid (below_thenB hb.out hb.out.size HX4.out); have q0 := HV4.out.get (j := 0) rfl; have q1 := HV4.out.get (j := 1) rfl; have q2 := HV4.out.get (j := 2) rfl)
            | (go_at_call 59; refine (idx_hd _ n c wx.heap.size l (fun y => decide (y.dv = x.dv)) w4 (fun w1 => BL w1 wx.heap.size 76 (hdL x)) (H.out.kept stay_hd HB4.out) HV4.out (fun w1 w2 h1 h2 => h1.kept h2) (fun w1 y h1 => hold1_any y _ x w1 h1)).mono ?_; rintro e w5 ⟨r, rfl, hr, b5⟩; rw [(idx_of _ _ _ hr).trans HZ.out]; have HB5 := Lib.hid (below_then HB4.out b5); clear b5 hr))
           go_roundw
           case rel => exact ⟨k + 1, by omega, by go_num, Lib.hid ⟨HG2.out, fun j y hj hy => by
            by_cases e : j = k
            ·
             subst e
             rw [HX.out] at hy; cases hy; exact HD.out
            ·
             exact hg.out.2 j y (by omega) hy⟩, Lib.hid HB5.out⟩
           case measure => simp [intOf]; omega
          ·
           have HR : Hid (holdersB l = false) := Lib.hid (by
            have h1 : ¬ ∀ v ∈ l.take k, Hd.dv v ≠ Hd.dv x := fun h => hzk (HZ.out.symm.trans ((hxI_first HX.out).2 h))
            obtain ⟨v, hv⟩ := Classical.not_forall.1 h1
            obtain ⟨hv1, hv2⟩ := Classical.not_imp.1 hv
            unfold holdersB
            rw [decide_eq_false (nodup_not (f := Hd.dv) HX.out hv1 (Classical.not_not.1 hv2)), Bool.and_false])
           have fz : (z != (k : Int)) = true := by rw [bne_iff_ne]; exact hzk
           go_wp2_with (first
            | ((with_reducible show OpW 14); refine wpList_loadv _ rfl 76 (.tmp 13) rfl 3 (by kernel_rfl) g (o + k * 3) (hdL x) (by go_simp) HA.out rfl ?_)
            | ((with_reducible show OpW 4); refine wpList_alloc _ rfl 76 rfl hdZ hdZero ?_; intro w3 a1 a2 a3; have HV3 := Lib.hid a1; have HX3 := Lib.hid a2; clear a1 a2 a3)
            | ((with_reducible show OpN); refine wpList_storev _ rfl 76 (.tmp 4) (.tmp 14) rfl 3 (by kernel_rfl) wx.heap.size 0 _ hdZ (hdL x) rfl rfl HV3.out rfl (one_hd x) (by decide) ?_; intro w4 a1 a2 a3; have HV4 : Hid (BL w4 wx.heap.size 76 (hdL x)) := Lib.hid a1; have HX4 : Hid (Below wx.heap.size wx w4) := Lib.hid (((Kp.of_below (S := fun _ => False) HX3.out).after a2 (fun i hi e => by omega)).below (Nat.le_refl _) (fun _ h => h.elim)); clear a1 a2 a3; have HB4 := Lib.hid (below_thenB hb.out hb.out.size HX4.out); have q0 := HV4.out.get (j := 0) rfl; have q1 := HV4.out.get (j := 1) rfl; have q2 := HV4.out.get (j := 2) rfl)
            | (go_at_call 59; refine (idx_hd _ n c wx.heap.size l (fun y => decide (y.dv = x.dv)) w4 (fun w1 => BL w1 wx.heap.size 76 (hdL x)) (H.out.kept stay_hd HB4.out) HV4.out (fun w1 w2 h1 h2 => h1.kept h2) (fun w1 y h1 => hold1_any y _ x w1 h1)).mono ?_; rintro e w5 ⟨r, rfl, hr, b5⟩; rw [(idx_of _ _ _ hr).trans HZ.out]; have HB5 := Lib.hid (below_then HB4.out b5); clear b5 hr))
           go_ret
           exact ⟨by rw [HR.out]; rfl, HB5.out⟩
   ·
    obtain rfl : k = n := by omega
    have HR : Hid (holdersB l = true) := Lib.hid (by
     obtain ⟨h1, h2⟩ := hg.out
     rw [take_end HL.out] at h1
     unfold holdersB
     rw [decide_eq_true (by rw [HL.out]; exact HLE.out), List.all_eq_true.2 h1, decide_eq_true (nodup_first (f := Hd.dv) (fun j x hj v hv => h2 j x (by have := (List.getElem?_eq_some_iff.1 hj).1; have := HL.out; omega) hj v hv))]; rfl)
    go_wp2_with fail
    go_ret
    exact ⟨by rw [HR.out]; rfl, hb.out⟩
end
end Go.Proofs.YtklfficlegfhjaaGreat
/- known, Used. -/
namespace Go.Proofs.YtklfficlegfhjaaGreat
open Go Go.RowKit Gf Sha

theorem LS.wt_at {w w' : World} {A : Option Addr} {n c : Nat} {ws : List Wt} (h : LS rWt 4 40 w A n c ws) (hb : Below w.heap.size w w') {i : Nat} {x : Wt} (hi : ws[i]? = some x) :
  ∃ g o, A = some ⟨g, o, none⟩ ∧ i < n ∧ At w' g (o + i * 4) (wtL x) := by
 have hl := (List.getElem?_eq_some_iff.1 hi).1
 rw [h.1] at hl
 obtain ⟨y, g, o, cs, hy, ea, hat, ⟨rfl, _⟩⟩ := h.at_ stay_wt hb hl
 rw [hi] at hy
 cases hy
 exact ⟨g, o, ea, hl, hat⟩
section
set_option maxRecDepth 100000
set_option maxHeartbeats 2000000
theorem known_any (A : Option Addr) (n c : Nat) (ws : List Wt) (B : Option Addr) (m d : Nat) (ps : List Pl) (w : World) (h : LS rWt 4 40 w A n c ws) (hp : LS rPl 3 32 w B m d ps) :
  Calls Tryz.prog 43 #[.slice A n c, .slice B m d] w fun e w' => e = .returned (.bool (namedB ws ps)) ∧ Below w.heap.size w w' := by
 have hn := h.len_le
 have hm := hp.len_le
 have H := Lib.hid h
 have HP := Lib.hid hp
 have HL := Lib.hid hp.1
 clear h hp
 go_enter Tryz.func43, Tryz.ntmps43
 go_wp2_with fail
 go_loopw [10] (fun iv wr => ∃ k : Nat, k ≤ m ∧ iv = .int .i64 (k : Int) ∧ Hid (∀ x ∈ ps.take k, nameB ws x = true) ∧ Hid (Below w.heap.size w wr)) (fun iv _ => m - (intOf iv).toNat)
 case atStart => exact ⟨0, by omega, rfl, Lib.hid (fun x hx => by simp at hx), Lib.hid (Below.refl _ _)⟩
 case round =>
  obtain ⟨k, hk, rfl, hg, hb⟩ := hrel
  obtain ⟨wx, hwx⟩ : ∃ x, x = wr := ⟨_, rfl⟩
  rw [← hwx] at hb ⊢
  clear hwx
  by_cases hlt : k < m
  ·
   obtain ⟨x, g, o, cs, hs, ea, hat, hr⟩ := HP.out.at_ stay_pl hb.out hlt
   obtain ⟨rfl, hok⟩ := hr
   have HX := Lib.hid hs
   have HA := Lib.hid hat
   have HM : Hid (x ∈ ps) := Lib.hid (List.mem_of_getElem? hs)
   subst ea
   clear hs hat hok
   obtain ⟨z, hz⟩ : ∃ z, z = fdI ws x.st := ⟨_, rfl⟩
   have HZ := Lib.hid hz.symm
   have HC := Lib.hid (fdI_cases ws x.st)
   clear hz
   have HBAD : Hid (nameB ws x = false → namedB ws ps = false) := Lib.hid (fun h1 => List.all_eq_false.2 ⟨x, HM.out, by rw [h1]; decide⟩)
   by_cases hzn : z = -1
   ·
    subst hzn
    have HR : Hid (namedB ws ps = false) := Lib.hid (HBAD.out (by
     rcases HC.out with ⟨_, h2⟩ | ⟨i, w, h2, _⟩
     ·
      unfold nameB; rw [h2]
     ·
      have := HZ.out; omega))
    go_wp2_with (first
     | ((with_reducible show OpW 13); refine wpList_loadv _ rfl 85 (.tmp 12) rfl 3 (by kernel_rfl) g (o + k * 3) (plL x) (by go_simp) HA.out rfl ?_)
     | ((with_reducible show OpW 6); refine wpList_alloc _ rfl 85 rfl plZ plZero ?_; intro w3 a1 a2 a3; have HV3 := Lib.hid a1; have HX3 := Lib.hid a2; clear a1 a2 a3)
     | ((with_reducible show OpN); refine wpList_storev _ rfl 85 (.tmp 6) (.tmp 13) rfl 3 (by kernel_rfl) wx.heap.size 0 _ plZ (plL x) rfl rfl HV3.out rfl (one_pl x) (by decide) ?_; intro w4 a1 a2 a3; have HV4 : Hid (BL w4 wx.heap.size 85 (plL x)) := Lib.hid a1; have HX4 : Hid (Below wx.heap.size wx w4) := Lib.hid (((Kp.of_below (S := fun _ => False) HX3.out).after a2 (fun i hi e => by omega)).below (Nat.le_refl _) (fun _ h => h.elim)); clear a1 a2 a3; have HB4 := Lib.hid (below_thenB hb.out hb.out.size HX4.out); have q0 := HV4.out.get (j := 0) rfl; have q1 := HV4.out.get (j := 1) rfl)
     | (go_at_call 44; refine (find_any _ n c ws x.st w4 (H.out.kept stay_wt HB4.out)).mono ?_; rintro e w5 ⟨rfl, b5⟩; rw [HZ.out]; have HB5 := Lib.hid (below_then HB4.out b5); have HV5 := Lib.hid (HV4.out.kept b5); have p1 := HV5.out.get (j := 1) rfl;  clear b5)
     | fail)
    refine Text.wp_region_text (fun _ => True) [(0, 4), (1, 4), (2, 4), (3, 4), (4, 4), (5, 4), (6, 4), (7, 4), (8, 4), (9, 4), (10, 4), (11, 4), (12, 4), (13, 4), (14, 4), (15, 4), (16, 4), (17, 4), (18, 4)] (by kernel_rfl) (by kernel_rfl) (fun _ _ _ _ _ h => h) (trivial) ?_
    iterate 3 (refine Text.purek rfl rfl (fun K hK => ⟨_, fun w' => by go_simp <;> rfl, ?_⟩); go_simp; refine hK _ ?_; clear hK K)
    iterate 4 (refine Text.skipk (.inr (.inr rfl)) rfl rfl (fun K hK => ?_); go_simp; refine hK _ ?_; clear hK K)
    iterate 2 (refine Text.purek rfl rfl (fun K hK => ⟨_, fun w' => by go_simp <;> rfl, ?_⟩); go_simp; refine hK _ ?_; clear hK K)
    iterate 9 (refine Text.skipk (.inr (.inr rfl)) rfl rfl (fun K hK => ?_); go_simp; refine hK _ ?_; clear hK K)
    (refine Text.purek rfl rfl (fun K hK => ⟨_, fun w' => by go_simp <;> rfl, ?_⟩); go_simp; refine hK _ ?_; clear hK K)
    refine Text.done ?_
    go_wp2_with fail
    go_ret
    exact ⟨by rw [HR.out]; rfl, HB5.out.drew⟩
   ·
    obtain ⟨i, v, h1, h2, h3⟩ : ∃ (i : Nat) (v : Wt), fdI ws x.st = (i : Int) ∧ ws[i]? = some v ∧ wat ws x.st = some v := by
     rcases HC.out with ⟨h1, _⟩ | h1
     ·
      exact absurd (HZ.out.symm.trans h1) hzn
     ·
      exact h1
    obtain rfl : z = (i : Int) := HZ.out.symm.trans h1
    obtain ⟨gw, ow, ew, hin, _⟩ := H.out.wt_at (Below.refl _ _) h2
    subst ew
    have HI := Lib.hid h2
    have HN : Hid (nameB ws x = decide (0 ≤ x.ix ∧ x.ix < v.to)) := Lib.hid (by unfold nameB; rw [h3])
    have hin' : (i : Int) < (n : Int) := by omega
    clear h1 h2 h3 hzn HC
    cases f1 : decide (x.ix < 0) with
    | true =>
     have HR : Hid (namedB ws ps = false) := Lib.hid (HBAD.out (by have := of_decide_eq_true f1; rw [HN.out, decide_eq_false]; omega))
     go_wp2_with (first
      | ((with_reducible show OpW 13); refine wpList_loadv _ rfl 85 (.tmp 12) rfl 3 (by kernel_rfl) g (o + k * 3) (plL x) (by go_simp) HA.out rfl ?_)
      | ((with_reducible show OpW 6); refine wpList_alloc _ rfl 85 rfl plZ plZero ?_; intro w3 a1 a2 a3; have HV3 := Lib.hid a1; have HX3 := Lib.hid a2; clear a1 a2 a3)
      | ((with_reducible show OpN); refine wpList_storev _ rfl 85 (.tmp 6) (.tmp 13) rfl 3 (by kernel_rfl) wx.heap.size 0 _ plZ (plL x) rfl rfl HV3.out rfl (one_pl x) (by decide) ?_; intro w4 a1 a2 a3; have HV4 : Hid (BL w4 wx.heap.size 85 (plL x)) := Lib.hid a1; have HX4 : Hid (Below wx.heap.size wx w4) := Lib.hid (((Kp.of_below (S := fun _ => False) HX3.out).after a2 (fun i hi e => by omega)).below (Nat.le_refl _) (fun _ h => h.elim)); clear a1 a2 a3; have HB4 := Lib.hid (below_thenB hb.out hb.out.size HX4.out); have q0 := HV4.out.get (j := 0) rfl; have q1 := HV4.out.get (j := 1) rfl)
      | (go_at_call 44; refine (find_any _ n c ws x.st w4 (H.out.kept stay_wt HB4.out)).mono ?_; rintro e w5 ⟨rfl, b5⟩; rw [HZ.out]; have HB5 := Lib.hid (below_then HB4.out b5); have HV5 := Lib.hid (HV4.out.kept b5); have p1 := HV5.out.get (j := 1) rfl;  clear b5)
      | fail)
     refine Text.wp_region_text (fun _ => True) [(0, 4), (1, 4), (2, 4), (3, 4), (4, 4), (5, 1), (6, 4), (7, 4), (8, 4), (9, 4), (10, 4), (11, 4), (12, 4), (13, 4), (14, 4), (15, 4), (16, 4), (17, 4), (18, 4)] (by kernel_rfl) (by kernel_rfl) (fun _ _ _ _ _ h => h) (trivial) ?_
     iterate 5 (refine Text.purek rfl rfl (fun K hK => ⟨_, fun w' => by go_simp <;> rfl, ?_⟩); go_simp; refine hK _ ?_; clear hK K)
     (refine Text.readk rfl rfl (fun K hK => ⟨_, by go_simp <;> rfl, ?_⟩); go_simp; refine hK _ ?_; clear hK K)
     iterate 3 (refine Text.purek rfl rfl (fun K hK => ⟨_, fun w' => by go_simp <;> rfl, ?_⟩); go_simp; refine hK _ ?_; clear hK K)
     iterate 9 (refine Text.skipk (.inr (.inr rfl)) rfl rfl (fun K hK => ?_); go_simp; refine hK _ ?_; clear hK K)
     (refine Text.purek rfl rfl (fun K hK => ⟨_, fun w' => by go_simp <;> rfl, ?_⟩); go_simp; refine hK _ ?_; clear hK K)
     refine Text.done ?_
     go_wp2_with fail
     go_ret
     exact ⟨by rw [HR.out]; rfl, HB5.out.drew⟩
    | false =>
     cases f2 : decide (v.to ≤ x.ix) with
     | true =>
      have HR : Hid (namedB ws ps = false) := Lib.hid (HBAD.out (by have := of_decide_eq_true f2; rw [HN.out, decide_eq_false]; omega))
      go_wp2_with (first
       | ((with_reducible show OpW 13); refine wpList_loadv _ rfl 85 (.tmp 12) rfl 3 (by kernel_rfl) g (o + k * 3) (plL x) (by go_simp) HA.out rfl ?_)
       | ((with_reducible show OpW 6); refine wpList_alloc _ rfl 85 rfl plZ plZero ?_; intro w3 a1 a2 a3; have HV3 := Lib.hid a1; have HX3 := Lib.hid a2; clear a1 a2 a3)
       | ((with_reducible show OpN); refine wpList_storev _ rfl 85 (.tmp 6) (.tmp 13) rfl 3 (by kernel_rfl) wx.heap.size 0 _ plZ (plL x) rfl rfl HV3.out rfl (one_pl x) (by decide) ?_; intro w4 a1 a2 a3; have HV4 : Hid (BL w4 wx.heap.size 85 (plL x)) := Lib.hid a1; have HX4 : Hid (Below wx.heap.size wx w4) := Lib.hid (((Kp.of_below (S := fun _ => False) HX3.out).after a2 (fun i hi e => by omega)).below (Nat.le_refl _) (fun _ h => h.elim)); clear a1 a2 a3; have HB4 := Lib.hid (below_thenB hb.out hb.out.size HX4.out); have q0 := HV4.out.get (j := 0) rfl; have q1 := HV4.out.get (j := 1) rfl)
       | (go_at_call 44; refine (find_any _ n c ws x.st w4 (H.out.kept stay_wt HB4.out)).mono ?_; rintro e w5 ⟨rfl, b5⟩; rw [HZ.out]; have HB5 := Lib.hid (below_then HB4.out b5); have HV5 := Lib.hid (HV4.out.kept b5); have p1 := HV5.out.get (j := 1) rfl; obtain ⟨g9, o9, e9, _, h9⟩ := H.out.wt_at HB5.out HI.out; cases e9; have t3 := h9 3 _ rfl; clear b5)
       | fail)
      refine Text.wp_region_text (fun _ => True) [(0, 4), (1, 4), (2, 4), (3, 4), (4, 4), (5, 1), (6, 4), (7, 4), (8, 4), (9, 4), (10, 4), (12, 4), (13, 4), (14, 4), (15, 4), (11, 1), (16, 1), (17, 4), (18, 4)] (by kernel_rfl) (by kernel_rfl) (fun _ _ _ _ _ h => h) (trivial) ?_
      iterate 5 (refine Text.purek rfl rfl (fun K hK => ⟨_, fun w' => by go_simp <;> rfl, ?_⟩); go_simp; refine hK _ ?_; clear hK K)
      (refine Text.readk rfl rfl (fun K hK => ⟨_, by go_simp <;> rfl, ?_⟩); go_simp; refine hK _ ?_; clear hK K)
      iterate 9 (refine Text.purek rfl rfl (fun K hK => ⟨_, fun w' => by go_simp <;> rfl, ?_⟩); go_simp; refine hK _ ?_; clear hK K)
      iterate 2 (refine Text.readk rfl rfl (fun K hK => ⟨_, by go_simp <;> rfl, ?_⟩); go_simp; refine hK _ ?_; clear hK K)
      iterate 2 (refine Text.purek rfl rfl (fun K hK => ⟨_, fun w' => by go_simp <;> rfl, ?_⟩); go_simp; refine hK _ ?_; clear hK K)
      refine Text.done ?_
      go_wp2_with fail
      go_ret
      exact ⟨by rw [HR.out]; rfl, HB5.out.drew⟩
     | false =>
      have HG2 : Hid (∀ y ∈ ps.take (k + 1), nameB ws y = true) := Lib.hid (fun y hy => by
       rw [take_next HX.out] at hy
       rcases List.mem_append.1 hy with h | h
       ·
        exact hg.out y h
       ·
        have := of_decide_eq_false f1; have := of_decide_eq_false f2
        rw [List.mem_singleton.1 h, HN.out, decide_eq_true]; omega)
      go_wp2_with (first
       | ((with_reducible show OpW 13); refine wpList_loadv _ rfl 85 (.tmp 12) rfl 3 (by kernel_rfl) g (o + k * 3) (plL x) (by go_simp) HA.out rfl ?_)
       | ((with_reducible show OpW 6); refine wpList_alloc _ rfl 85 rfl plZ plZero ?_; intro w3 a1 a2 a3; have HV3 := Lib.hid a1; have HX3 := Lib.hid a2; clear a1 a2 a3)
       | ((with_reducible show OpN); refine wpList_storev _ rfl 85 (.tmp 6) (.tmp 13) rfl 3 (by kernel_rfl) wx.heap.size 0 _ plZ (plL x) rfl rfl HV3.out rfl (one_pl x) (by decide) ?_; intro w4 a1 a2 a3; have HV4 : Hid (BL w4 wx.heap.size 85 (plL x)) := Lib.hid a1; have HX4 : Hid (Below wx.heap.size wx w4) := Lib.hid (((Kp.of_below (S := fun _ => False) HX3.out).after a2 (fun i hi e => by omega)).below (Nat.le_refl _) (fun _ h => h.elim)); clear a1 a2 a3; have HB4 := Lib.hid (below_thenB hb.out hb.out.size HX4.out); have q0 := HV4.out.get (j := 0) rfl; have q1 := HV4.out.get (j := 1) rfl)
       | (go_at_call 44; refine (find_any _ n c ws x.st w4 (H.out.kept stay_wt HB4.out)).mono ?_; rintro e w5 ⟨rfl, b5⟩; rw [HZ.out]; have HB5 := Lib.hid (below_then HB4.out b5); have HV5 := Lib.hid (HV4.out.kept b5); have p1 := HV5.out.get (j := 1) rfl; obtain ⟨g9, o9, e9, _, h9⟩ := H.out.wt_at HB5.out HI.out; cases e9; have t3 := h9 3 _ rfl; clear b5)
       | fail)
      refine Text.wp_region_text (fun _ => True) [(0, 4), (1, 4), (2, 4), (3, 4), (4, 4), (5, 1), (6, 4), (7, 4), (8, 4), (9, 4), (10, 4), (12, 4), (13, 4), (14, 4), (15, 4), (11, 1), (16, 1), (17, 4), (18, 4)] (by kernel_rfl) (by kernel_rfl) (fun _ _ _ _ _ h => h) (trivial) ?_
      iterate 5 (refine Text.purek rfl rfl (fun K hK => ⟨_, fun w' => by go_simp <;> rfl, ?_⟩); go_simp; refine hK _ ?_; clear hK K)
      (refine Text.readk rfl rfl (fun K hK => ⟨_, by go_simp <;> rfl, ?_⟩); go_simp; refine hK _ ?_; clear hK K)
      iterate 9 (refine Text.purek rfl rfl (fun K hK => ⟨_, fun w' => by go_simp <;> rfl, ?_⟩); go_simp; refine hK _ ?_; clear hK K)
      iterate 2 (refine Text.readk rfl rfl (fun K hK => ⟨_, by go_simp <;> rfl, ?_⟩); go_simp; refine hK _ ?_; clear hK K)
      iterate 2 (refine Text.purek rfl rfl (fun K hK => ⟨_, fun w' => by go_simp <;> rfl, ?_⟩); go_simp; refine hK _ ?_; clear hK K)
      refine Text.done ?_
      go_wp2_with fail
      go_roundw
      case rel => exact ⟨k + 1, by omega, by go_num, HG2, Lib.hid HB5.out.drew⟩
      case measure => simp [intOf]; omega
  ·
   obtain rfl : k = m := by omega
   have HR : Hid (namedB ws ps = true) := Lib.hid (List.all_eq_true.2 (fun x hx => hg.out x (by rw [take_end HL.out]; exact hx)))
   go_wp2_with fail
   go_ret
   exact ⟨by rw [HR.out]; rfl, hb.out⟩
end
end Go.Proofs.YtklfficlegfhjaaGreat
/- Used. -/
namespace Go.Proofs.YtklfficlegfhjaaGreat
open Go Go.RowKit Gf Sha

theorem used_take {ws : List Wt} {ps : List Pl} {k : Nat} {p : Pl} (hk : ps[k]? = some p) (d : Int) : usedI ws (ps.take (k + 1)) d = usedI ws (ps.take k) d + (if p.dv = d then szOf ws p.st else 0) := by
 rw [take_next hk, used_snoc]
theorem used_rng {ws : List Wt} (hw : wantsB ws = true) (ps : List Pl) (d : Int) (k : Nat) : 0 ≤ usedI ws (ps.take k) d ∧ usedI ws (ps.take k) d ≤ 65536 * (k : Int) := by
 have h1 := used_le hw d (ps.take k)
 have h2 : ((ps.take k).length : Int) ≤ (k : Int) := by rw [List.length_take]; omega
 omega
section
set_option maxRecDepth 100000
set_option maxHeartbeats 2000000
theorem used_any (A : Option Addr) (n c : Nat) (ws : List Wt) (B : Option Addr) (m d : Nat) (ps : List Pl) (dv : Int) (w : World) (h : LS rWt 4 40 w A n c ws) (hp : LS rPl 3 32 w B m d ps) (hw : wantsB ws = true) (hm : m ≤ 100000) :
  Calls Tryz.prog 39 #[.slice A n c, .slice B m d, .int .i64 dv] w fun e w' => e = .returned (.int .i64 (usedI ws ps dv)) ∧ Below w.heap.size w w' := by
 have hn := h.len_le
 have H := Lib.hid h
 have HP := Lib.hid hp
 have HL := Lib.hid hp.1
 have HW := Lib.hid hw
 have HM := Lib.hid hm
 clear h hp hw
 go_enter Tryz.func39, Tryz.ntmps39
 go_wp2_with fail
 go_loopw [7, 13] (fun s iv wr => ∃ k : Nat, k ≤ m ∧ iv = .int .i64 (k : Int) ∧ s = .int .i64 (usedI ws (ps.take k) dv) ∧ Hid (Below w.heap.size w wr)) (fun _ iv _ => m - (intOf iv).toNat)
 case atStart => exact ⟨0, by omega, rfl, rfl, Lib.hid (Below.refl _ _)⟩
 case round =>
  obtain ⟨k, hk, rfl, rfl, hb⟩ := hrel
  obtain ⟨wx, hwx⟩ : ∃ x, x = wr := ⟨_, rfl⟩
  rw [← hwx] at hb ⊢
  clear hwx
  by_cases hlt : k < m
  ·
   obtain ⟨x, g, o, cs, hs, ea, hat, hr⟩ := HP.out.at_ stay_pl hb.out hlt
   obtain ⟨rfl, hok⟩ := hr
   have HX := Lib.hid hs
   have HA := Lib.hid hat
   subst ea
   clear hs hat hok
   obtain ⟨z, hz⟩ : ∃ z, z = fdI ws x.st := ⟨_, rfl⟩
   have HZ := Lib.hid hz.symm
   have HC := Lib.hid (fdI_cases ws x.st)
   have HU1 := Lib.hid (used_take (ws := ws) HX.out dv)
   have HRG := Lib.hid (used_rng HW.out ps dv k)
   have HSZ := Lib.hid (sz_nonneg HW.out x.st)
   obtain ⟨U, hU⟩ : ∃ U, U = usedI ws (ps.take k) dv := ⟨_, rfl⟩
   rw [← hU] at HU1 HRG ⊢
   clear hz hU
   by_cases hzn : z = -1
   ·
    subst hzn
    have HU2 : Hid (usedI ws (ps.take (k + 1)) dv = U) := Lib.hid (by
     have h0 : szOf ws x.st = 0 := by
      rcases HC.out with ⟨_, h2⟩ | ⟨i, w, h2, _⟩
      ·
       unfold szOf; rw [h2]
      ·
       have := HZ.out; omega
     rw [HU1.out, h0]; split <;> omega)
    clear HU1 HRG HSZ HC
    go_wp2_with (first
     | ((with_reducible show OpW 16); refine wpList_loadv _ rfl 85 (.tmp 15) rfl 3 (by kernel_rfl) g (o + k * 3) (plL x) (by go_simp) HA.out rfl ?_)
     | ((with_reducible show OpW 9); refine wpList_alloc _ rfl 85 rfl plZ plZero ?_; intro w3 a1 a2 a3; have HV3 := Lib.hid a1; have HX3 := Lib.hid a2; clear a1 a2 a3)
     | ((with_reducible show OpN); refine wpList_storev _ rfl 85 (.tmp 9) (.tmp 16) rfl 3 (by kernel_rfl) wx.heap.size 0 _ plZ (plL x) rfl rfl HV3.out rfl (one_pl x) (by decide) ?_; intro w4 a1 a2 a3; have HV4 : Hid (BL w4 wx.heap.size 85 (plL x)) := Lib.hid a1; have HX4 : Hid (Below wx.heap.size wx w4) := Lib.hid (((Kp.of_below (S := fun _ => False) HX3.out).after a2 (fun i hi e => by omega)).below (Nat.le_refl _) (fun _ h => h.elim)); clear a1 a2 a3; have HB4 := Lib.hid (below_thenB hb.out hb.out.size HX4.out); have q0 := HV4.out.get (j := 0) rfl)
     | (go_at_call 44; refine (find_any _ n c ws x.st w4 (H.out.kept stay_wt HB4.out)).mono ?_; rintro e w5 ⟨rfl, b5⟩; rw [HZ.out]; have HB5 := Lib.hid (below_then HB4.out b5); have HV5 := Lib.hid (HV4.out.kept b5); have p2 := HV5.out.get (j := 2) rfl;  clear b5)
     | fail)
    go_roundw
    case rel => exact ⟨k + 1, by omega, by go_num, by rw [HU2.out], HB5⟩
    case measure => simp [intOf]; omega
   ·
    obtain ⟨i, v, h1, h2, h3⟩ : ∃ (i : Nat) (v : Wt), fdI ws x.st = (i : Int) ∧ ws[i]? = some v ∧ wat ws x.st = some v := by
     rcases HC.out with ⟨h1, _⟩ | h1
     ·
      exact absurd (HZ.out.symm.trans h1) hzn
     ·
      exact h1
    obtain rfl : z = (i : Int) := HZ.out.symm.trans h1
    obtain ⟨gw, ow, ew, hin, _⟩ := H.out.wt_at (Below.refl _ _) h2
    subst ew
    have HI := Lib.hid h2
    have HS : Hid (szOf ws x.st = v.sz) := Lib.hid (by unfold szOf; rw [h3])
    have hin' : (i : Int) < (n : Int) := by omega
    clear h1 h2 h3 hzn HC
    by_cases hd : x.dv = dv
    ·
     have HU2 : Hid (usedI ws (ps.take (k + 1)) dv = U + v.sz) := Lib.hid (by rw [HU1.out, if_pos hd, HS.out])
     have hsum : IntKind.i64.wrap (U + v.sz) = U + v.sz := IntWalk.i64_in _ (by have := HRG.out; have := HSZ.out; rw [HS.out] at this; have := HM.out; omega)
     have fd : (x.dv == dv) = true := by rw [beq_iff_eq]; exact hd
     clear HU1 HRG HSZ hd
     go_wp2_with (first
      | ((with_reducible show OpW 16); refine wpList_loadv _ rfl 85 (.tmp 15) rfl 3 (by kernel_rfl) g (o + k * 3) (plL x) (by go_simp) HA.out rfl ?_)
      | ((with_reducible show OpW 9); refine wpList_alloc _ rfl 85 rfl plZ plZero ?_; intro w3 a1 a2 a3; have HV3 := Lib.hid a1; have HX3 := Lib.hid a2; clear a1 a2 a3)
      | ((with_reducible show OpN); refine wpList_storev _ rfl 85 (.tmp 9) (.tmp 16) rfl 3 (by kernel_rfl) wx.heap.size 0 _ plZ (plL x) rfl rfl HV3.out rfl (one_pl x) (by decide) ?_; intro w4 a1 a2 a3; have HV4 : Hid (BL w4 wx.heap.size 85 (plL x)) := Lib.hid a1; have HX4 : Hid (Below wx.heap.size wx w4) := Lib.hid (((Kp.of_below (S := fun _ => False) HX3.out).after a2 (fun i hi e => by omega)).below (Nat.le_refl _) (fun _ h => h.elim)); clear a1 a2 a3; have HB4 := Lib.hid (below_thenB hb.out hb.out.size HX4.out); have q0 := HV4.out.get (j := 0) rfl)
      | (go_at_call 44; refine (find_any _ n c ws x.st w4 (H.out.kept stay_wt HB4.out)).mono ?_; rintro e w5 ⟨rfl, b5⟩; rw [HZ.out]; have HB5 := Lib.hid (below_then HB4.out b5); have HV5 := Lib.hid (HV4.out.kept b5); have p2 := HV5.out.get (j := 2) rfl; obtain ⟨g9, o9, e9, _, h9⟩ := H.out.wt_at HB5.out HI.out; cases e9; have t1 := h9 1 _ rfl; clear b5)
      | fail)
     go_roundw
     case rel => exact ⟨k + 1, by omega, by go_num, by first | (rw [HU2.out]; done) | (rw [HU2.out, hsum]), HB5⟩
     case measure => simp [intOf]; omega
    ·
     have HU2 : Hid (usedI ws (ps.take (k + 1)) dv = U) := Lib.hid (by rw [HU1.out, if_neg hd, Int.add_zero])
     have fd : (x.dv == dv) = false := by rw [beq_eq_false_iff_ne]; exact hd
     clear HU1 HRG HSZ hd
     go_wp2_with (first
      | ((with_reducible show OpW 16); refine wpList_loadv _ rfl 85 (.tmp 15) rfl 3 (by kernel_rfl) g (o + k * 3) (plL x) (by go_simp) HA.out rfl ?_)
      | ((with_reducible show OpW 9); refine wpList_alloc _ rfl 85 rfl plZ plZero ?_; intro w3 a1 a2 a3; have HV3 := Lib.hid a1; have HX3 := Lib.hid a2; clear a1 a2 a3)
      | ((with_reducible show OpN); refine wpList_storev _ rfl 85 (.tmp 9) (.tmp 16) rfl 3 (by kernel_rfl) wx.heap.size 0 _ plZ (plL x) rfl rfl HV3.out rfl (one_pl x) (by decide) ?_; intro w4 a1 a2 a3; have HV4 : Hid (BL w4 wx.heap.size 85 (plL x)) := Lib.hid a1; have HX4 : Hid (Below wx.heap.size wx w4) := Lib.hid (((Kp.of_below (S := fun _ => False) HX3.out).after a2 (fun i hi e => by omega)).below (Nat.le_refl _) (fun _ h => h.elim)); clear a1 a2 a3; have HB4 := Lib.hid (below_thenB hb.out hb.out.size HX4.out); have q0 := HV4.out.get (j := 0) rfl)
      | (go_at_call 44; refine (find_any _ n c ws x.st w4 (H.out.kept stay_wt HB4.out)).mono ?_; rintro e w5 ⟨rfl, b5⟩; rw [HZ.out]; have HB5 := Lib.hid (below_then HB4.out b5); have HV5 := Lib.hid (HV4.out.kept b5); have p2 := HV5.out.get (j := 2) rfl;  clear b5)
      | fail)
     go_roundw
     case rel => exact ⟨k + 1, by omega, by go_num, by rw [HU2.out], HB5⟩
     case measure => simp [intOf]; omega
  ·
   obtain rfl : k = m := by omega
   have HR : Hid (ps.take k = ps) := Lib.hid (take_end HL.out)
   go_wp2_with fail
   go_ret
   exact ⟨by rw [HR.out]; rfl, hb.out⟩
end
end Go.Proofs.YtklfficlegfhjaaGreat
