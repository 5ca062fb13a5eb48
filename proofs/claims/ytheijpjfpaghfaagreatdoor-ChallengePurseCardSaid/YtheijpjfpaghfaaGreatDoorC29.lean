/- Several texts in one: Hf. -/
import Derived.Test.YtheijpjfpaghfaaGreatDoorC28
/- challenge.Decode. -/
namespace Go.Proofs.YtheijpjfpaghfaaGreatDoor
open Go Go.RowKit Go.ChangeMaps Go.MapKept Gf Sha

/-- Is an entry valid? -/
def okE (e : En) : Bool := idB e.s e.i && (decide (e.tk.length + e.us.length ≠ 0) && decide (e.us ++ e.tk.map (·.1)).Nodup)
def idE (e : En) : Pid := (e.s, e.i)
def ascE : Option Pid → Pid → Bool
 | none, _ => true
 | some p, q => ltI p q
/-- Are entries valid and in order? -/
def validE : Option Pid → List En → Bool
 | _, [] => true
 | p, e :: r => okE e && (ascE p (idE e) && validE (some (idE e)) r)
def sizeE (l : List En) : Nat := (l.map fun e => e.tk.length + e.us.length).sum
/-- What Decode reads, and the error it returns. -/
def rdAll (b : List UInt8) : List En × Rd := rdRecs b (rdC b ⟨0, 0, 0⟩).1 ([], (rdC b ⟨0, 0, 0⟩).2)
def decP (b : List UInt8) : Int := if endR b.length (rdAll b).2 = 0 then (if validE none (rdAll b).1 = true ∧ sizeE (rdAll b).1 ≤ 4096 then 0 else 3) else endR b.length (rdAll b).2

/-- Records that are built: each has slices of its own. -/
structure RL (w : World) (base : Nat) (v : Value) (rs : List Se) : Prop where
 row : RW w 82 4 v rs.length (rs.flatMap seC)
 ok : ∀ x ∈ rs, SOk w x
 ap : rs.Pairwise (fun x y => ∀ b, x.has b → ¬ y.has b)
 lo : ∀ x ∈ rs, ∀ q, x.has q → base ≤ q
 vlo : ∀ q, v.ownBlock = some q → base ≤ q
 vap : ∀ x ∈ rs, ∀ q, v.ownBlock = some q → ¬ x.has q
section
variable {w w' : World} {base : Nat} {v v' : Value} {rs : List Se}
theorem RL.nil (w : World) (base : Nat) : RL w base (.slice none 0 0) [] := ⟨RW.nil _ _ _, fun _ h => (by cases h), List.Pairwise.nil, fun _ h => (by cases h), fun _ h => (by cases h), fun _ h => (by cases h)⟩
theorem RL.kept (h : RL w base v rs) (hb : Below w.heap.size w w') : RL w' base v rs := ⟨h.row.kept hb, fun x hx => (h.ok x hx).kept hb, h.ap, h.lo, h.vlo, h.vap⟩
theorem RL.kp {S : Nat → Prop} (h : RL w base v rs) (hk : Kp S w w') (hS : ∀ q, base ≤ q → ¬ S q) : RL w' base v rs :=
 ⟨h.row.kp hk (fun q hq => hS q (h.vlo q hq)), fun x hx => (h.ok x hx).kp hk (fun q hq => hS q (h.lo x hx q hq)), h.ap, h.lo, h.vlo, h.vap⟩
theorem RL.lt (h : RL w base v rs) {x : Se} (hx : x ∈ rs) {q : Nat} (hq : x.has q) : q < w.heap.size := (h.ok x hx).lt hq
/-- A new record is put behind them. -/
theorem RL.push {x : Se} {w1 w2 : World} (h : RL w base v rs) (h1 : RL w1 base v rs) (hx : SOk w1 x) (hn : ∀ q, x.has q → w.heap.size ≤ q) (hb : base ≤ w.heap.size) (hle : w.heap.size ≤ w1.heap.size) (ap : AppR w1 82 4 v rs.length 1 (rs.flatMap seC) (seC x) v' w2) : RL w2 base v' (rs ++ [x]) := by
 have hvx : ∀ q, v.ownBlock = some q → ¬ x.has q := fun q hq hq2 => by have := h.row.lt hq; have := hn q hq2; omega
 refine ⟨?_, fun y hy => ?_, List.pairwise_append.2 ⟨h.ap, by simp, fun y hy z hz q hq hq2 => ?_⟩, fun y hy q hq => ?_, fun q hq => (ap.own q hq).elim (h.vlo q) (fun h9 => by omega), fun y hy q hq hq2 => ?_⟩
 ·
  have h9 := ap.row
  rw [List.flatMap_append, List.length_append]
  simpa using h9
 ·
  rcases List.mem_append.1 hy with h9 | h9
  ·
   exact (h1.ok y h9).kp ap.kp (fun q hq hq2 => h.vap y h9 q hq2 hq)
  ·
   rw [List.mem_singleton.1 h9]
   exact hx.kp ap.kp (fun q hq hq2 => hvx q hq2 hq)
 ·
  rw [List.mem_singleton.1 hz] at hq2
  have := h.lt hy hq
  have := hn q hq2
  omega
 ·
  rcases List.mem_append.1 hy with h9 | h9
  ·
   exact h.lo y h9 q hq
  ·
   rw [List.mem_singleton.1 h9] at hq
   have := hn q hq
   omega
 ·
  rcases ap.own q hq with h8 | h8
  ·
   rcases List.mem_append.1 hy with h9 | h9
   ·
    exact h.vap y h9 q h8 hq2
   ·
    rw [List.mem_singleton.1 h9] at hq2
    exact hvx q h8 hq2
  ·
   rcases List.mem_append.1 hy with h9 | h9
   ·
    have := h1.lt h9 hq2
    omega
   ·
    rw [List.mem_singleton.1 h9] at hq2
    have := hx.lt hq2
    omega
theorem seC_length (x : Se) : (seC x).length = 4 := rfl
end
theorem cell_at {w w' : World} {g o : Nat} {l : List Value} (h : At w g o l) (hb : Below w.heap.size w w') : At w' g o l := h.kept hb
theorem low_own {w w1 w2 : World} {S : Nat → Prop} (h : Below w.heap.size w w1) (hk : Kp S w1 w2) (hS : ∀ i, i < w.heap.size → S i → False) : Below w.heap.size w w2 :=
 ((Kp.of_below (S := fun _ => False) h).after hk hS).below (Nat.le_refl _) (fun _ h => h.elim)
theorem infoRe : (Tryz.prog.info? 82).map (fun i => (i.zero, i.size, i.bytes)) = some (some (.agg reZ.toArray), 4, 72) := by kernel_rfl
theorem bslRe (s : List UInt8) (i : Int) (tv uv : Value) (w : World) : (Instr.buildSlice 75 1 #[(0, .agg [.string (strB s), .int .i64 i, tv, uv].toArray)]).run Tryz.prog w = .ok (.slice (some ⟨w.heap.size, 0, none⟩) 1 1) (w.alloc (.cells [.string (strB s), .int .i64 i, tv, uv].toArray 82)) := by kernel_rfl
end Go.Proofs.YtheijpjfpaghfaaGreatDoor
