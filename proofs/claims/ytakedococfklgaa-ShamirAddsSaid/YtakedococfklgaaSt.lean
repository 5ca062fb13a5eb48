/- Bytes as strings: string(b), and bytes.Equal. -/
import Derived.Test.YtakedococfklgaaSh1
import Derived.Laws.BytesArg
namespace Go.Proofs.Ytakedococfklgaa
open Go.RowKit Gf

/-- The string of bytes. -/
def strB (l : List UInt8) : ByteArray := ⟨l.toArray⟩
theorem strB_inj {l l' : List UInt8} (h : strB l = strB l') : l = l' := by
  unfold strB at h
  injection h with h
  simpa using congrArg Array.toList h
theorem strB_list (l : List UInt8) : (strB l).toList = l := by rw [ByteArray.toList_eq]; rfl
theorem strB_eq (l l' : List UInt8) : ((strB l).toList == (strB l').toList) = decide (l = l') := by
  rw [strB_list, strB_list]
  by_cases h : l = l'
  · simp [h]
  · simp [h]
theorem strB_bne (l l' : List UInt8) : ((strB l).toList != (strB l').toList) = !decide (l = l') := by rw [bne, strB_eq]
theorem strB_nums (l : List UInt8) : strOfNums (l.map bv) = strB l := by
  unfold strOfNums strB
  congr 2
  rw [List.map_map]
  conv => rhs; rw [← List.map_id l]
  apply List.map_congr_left
  intro x _
  simp [bv]
theorem conv_str {w : World} {A : Option Addr} {n c : Nat} {l : List UInt8} (h : BS w A n c l) :
    (convert 22 9 (.slice A n c)).run Try.prog w = .ok (.string (strB l)) w := by
  cases A with
  | none =>
    have h0 : n = 0 := by
      rcases Nat.eq_zero_or_pos n with h0 | h0
      · exact h0
      · obtain ⟨g, o, e, _⟩ := h.2.2.2 0 h0
        cases e
    have hl : l = [] := List.eq_nil_of_length_eq_zero (by rw [h.1, h0])
    rw [run_convert_bytes_nil w _ _ Try.underlying22 Try.underlying5 n c _ Try.underlying9, hl]
    rfl
  | some a =>
    by_cases h0 : n = 0
    · have hl : l = [] := List.eq_nil_of_length_eq_zero (by rw [h.1, h0])
      subst h0 hl
      refine (run_convert_bytes_string w 22 9 5 (some a) 0 c Try.underlying22 Try.underlying5 Try.underlying9).trans ?_
      exact run_bytesToString w a 0 c [] (run_loadCells_list (P := Try.prog) w a [] (fun j v hj => by simp at hj))
    · obtain ⟨g, o, e, _⟩ := h.2.2.2 0 (by omega)
      obtain rfl := Option.some.inj e
      rw [run_convert_bytes_arg w _ _ Try.underlying22 Try.underlying5 g o n c (l.map bv) (by simp [h.1]) (fun i hi => by
        obtain ⟨g', o', e', hc⟩ := h.2.2.2 i hi
        cases Option.some.inj e'
        have hl : i < l.length := by rw [h.1]; exact hi
        rw [hc]
        show some (B (gB l i)) = _
        rw [gB_eq hl, B]
        simp [List.getD, List.getElem?_eq_getElem hl]) _ Try.underlying9, strB_nums]

set_option maxHeartbeats 1000000 in
theorem equal_any (A A' : Option Addr) (n c n' c' : Nat) (l l' : List UInt8) (w : World) (h : BS w A n c l) (h' : BS w A' n' c' l') :
    Calls Try.prog 77 #[.slice A n c, .slice A' n' c'] w fun e w' => e = .returned (.bool (decide (l = l'))) ∧ w = w' := by
  have c1 := conv_str h
  have c2 := conv_str h'
  have HE := Lib.hid (strB_eq l l')
  clear h h'
  go_enter Try.func77, Try.ntmps77
  go_wp2
  go_ret
  exact ⟨ret_bool (by first | exact HE.out | (rw [← HE.out]; rfl) | trace_state), rfl⟩
end Go.Proofs.Ytakedococfklgaa
