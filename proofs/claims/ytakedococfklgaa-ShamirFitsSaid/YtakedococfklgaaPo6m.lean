/- Contract of polynomial.FromRoots. -/
import Derived.Test.YtakedococfklgaaB1
namespace Go.Proofs.Ytakedococfklgaa
open Go.RowKit Gf

/-- Bytes, nothing old has turned. -/
def GvN (l : List UInt8) (w : World) (v : Value) (w' : World) : Prop := ∃ A n c, v = .slice A n c ∧ BS w' A n c l ∧ Below w.heap.size w w'
/-- A box that holds bytes, in other memory. -/
def BoxB (w : World) (gb : Nat) (l : List UInt8) : Prop := ∃ A n c, Blk w gb 22 #[.slice A n c] ∧ BS w A n c l ∧ AtB A (fun b => b ≠ gb)

set_option maxRecDepth 100000 in
set_option maxHeartbeats 1000000 in
theorem fromRoots1_any (gb : Nat) (l : List UInt8) (r : UInt8) (w : World) (h : BoxB w gb l) (hl : l.length ≤ 100000) :
    Calls Try.prog 104 #[B r, .pointer (some ⟨gb, 0, none⟩)] w fun e w' => e = .returned (.tuple #[]) ∧ BoxB w' gb (Py.tr l r) ∧ Kp (· = gb) w w' := by
  obtain ⟨A, n, c, h1, h2, h3⟩ := h
  have c1 : w.cell? ⟨gb, 0, none⟩ = some (.slice A n c) := by rw [h1.cell]; rfl
  have hn : n ≤ 100000 := by rw [← h2.1]; exact hl
  have H1 := Lib.hid h1
  have H2 := Lib.hid h2
  clear h1 h2 h3 hl
  go_enter Try.func104, Try.ntmps104
  go_wp2_with fail
  refine (timesRoot_any A n c l r w H2.out hn).mono ?_
  rintro e w1 ⟨v, rfl, A1, n1, c1', rfl, h11, h12, h13⟩
  have hk := H1.out.kept h13
  have c2 : w1.cell? ⟨gb, 0, none⟩ = some (.slice A n c) := by rw [hk.cell]; rfl
  have f2 := hk.frozen 0
  have HK := Lib.hid hk
  have hne : AtB A1 (fun b => b ≠ gb) := fun a e => by have := h12 a e; have := H1.out.lt; intro h; omega
  have HR : Hid (BoxB (w1.setCell ⟨gb, 0, none⟩ (.slice A1 n1 c1')) gb (Py.tr l r) ∧ Kp (· = gb) w (w1.setCell ⟨gb, 0, none⟩ (.slice A1 n1 c1'))) := Lib.hid ⟨⟨A1, n1, c1', hk.set_ 0 _, h11.far (fun g o e => hne ⟨g, o, none⟩ e) _, hne⟩, Kp.set (S := (· = gb)) (Kp.of_below h13) (.inl rfl) _⟩
  clear h11 h12 h13 hk hne
  go_wp2_with fail
  go_end0
  exact ⟨rfl, HR.out⟩

theorem frP_take (rs : List UInt8) (k : Nat) (h : k < rs.length) : Py.frP (rs.take (k + 1)) = Py.tr (Py.frP (rs.take k)) (gB rs k) := by
  rw [List.take_succ_eq_append_getElem h, Py.frP, List.foldl_append, gB_eq h]; rfl
theorem foldl_tr_length (rs : List UInt8) : ∀ l, (rs.foldl Py.tr l).length = l.length + rs.length := by
  induction rs with
  | nil => intro l; rfl
  | cons r rs ih => intro l; rw [List.foldl_cons, ih, Py.tr_length]; simp; omega
theorem frP_length (rs : List UInt8) : (Py.frP rs).length = rs.length + 1 := by rw [Py.frP, foldl_tr_length]; simp; omega

set_option maxRecDepth 100000 in
set_option maxHeartbeats 1000000 in
theorem fromRoots_any (A : Option Addr) (n c : Nat) (rs : List UInt8) (w : World) (h : BS w A n c rs) (hn : n ≤ 1023) :
    Calls Try.prog 85 #[.slice A n c] w fun e w' => ∃ v r, e = .returned (.tuple #[v, .int .i64 r]) ∧ GvN (Py.frP rs) w v w' := by
  have hmf : ∀ (fn : Fn) (first cap : Array Value) (w : World), (Instr.makeFunc fn first cap).run Try.prog w = .ok (.func fn first cap) w := fun _ _ _ _ => rfl
  have HL := Lib.hid h.1
  have H := Lib.hid h
  clear h
  have hn' : (n : Int) ≤ 1023 := by omega
  have q1 : decide ((1023 : Int) < (n : Int)) = false := by simp; omega
  have HN := Lib.hid hn
  clear hn
  go_enter Try.func85, Try.ntmps85
  go_wp2_with fail
  go_loopw [15] (fun i wr => ∃ k : Nat, k ≤ n ∧ i = .int .i64 (k : Int) ∧ Hid (BoxB wr (w.heap.size + 1) (Py.frP (rs.take k))) ∧ Hid (Below w.heap.size w wr)) (fun i _ => n - (intOf i).toNat)
  case atStart =>
    refine ⟨0, by omega, rfl, Lib.hid ⟨some ⟨w.heap.size, 0, none⟩, 1, 1, ?_, ?_, (fun a e => by cases e; simp)⟩, Lib.hid (((Below.refl _ _).alloc (Nat.le_refl _) _).alloc (by simp) _)⟩
    · have := Blk.new (w.alloc (.cells #[.int .u8 1] 5)) 22 #[.slice (some ⟨w.heap.size, 0, none⟩) 1 1]
      rw [World.size_alloc] at this
      exact this
    · exact BS.of_blk (l := [1]) ((Blk.new w 5 _).alloc _) rfl (by decide)
  case round =>
    obtain ⟨k, hk, rfl, hx, hb⟩ := hrel
    by_cases hlt : k < n
    · obtain ⟨g, o, rfl, hc⟩ := H.out.at_ hb.out hlt
      go_wp2_with fail
      refine (fromRoots1_any (w.heap.size + 1) _ (gB rs k) wr hx.out (by rw [frP_length]; have := List.length_take_le k rs; have := HN.out; omega)).mono ?_
      rintro e w2 ⟨rfl, h21, h22⟩
      have HX : Hid (BoxB w2 (w.heap.size + 1) (Py.frP (rs.take (k + 1)))) := Lib.hid (by rw [frP_take rs k (by rw [HL.out]; exact hlt)]; exact h21)
      have HB : Hid (Below w.heap.size w w2) := Lib.hid (hb.out.trans (h22.below hb.out.size (fun k e => by rw [e]; omega)))
      clear h21 h22
      go_wp2_with fail
      go_roundw
      case rel => exact ⟨k + 1, by omega, by go_num, HX, HB⟩
      case measure => simp [intOf]; omega
    · obtain rfl : k = n := by omega
      obtain ⟨A1, n1, c1, h1, h2, h3⟩ := hx.out
      rw [List.take_of_length_le (by rw [HL.out]; exact Nat.le_refl _)] at h2
      have cc : wr.cell? ⟨w.heap.size + 1, 0, none⟩ = some (.slice A1 n1 c1) := by rw [h1.cell]; rfl
      have HR : Hid (GvN (Py.frP rs) w (.slice A1 n1 c1) wr) := Lib.hid ⟨_, _, _, rfl, h2, hb.out⟩
      clear h1 h2 h3
      go_wp2_with fail
      go_ret2
      exact ⟨_, _, rfl, HR.out⟩
end Go.Proofs.Ytakedococfklgaa
