/- Closed facts about the program's tables, and 'make' of the element types that the chapter uses. -/
import Derived.Test.YtakedococfklgaaChecked
import Derived.Test.YtakedococfklgaaMem
import Derived.WalkKit
namespace Go.Proofs.Ytakedococfklgaa
open Go Go.RowKit Gf

theorem infoU8 : (Try.prog.info? 5).map (fun i => (i.zero, i.size, i.bytes)) = some (some (.int .u8 0), 1, 1) := by kernel_rfl
theorem infoBytes : (Try.prog.info? 22).map (fun i => (i.zero, i.size, i.bytes)) = some (some (.slice none 0 0), 1, 24) := by kernel_rfl
theorem infoInt : (Try.prog.info? 3).map (fun i => (i.zero, i.size, i.bytes)) = some (some (.int .i64 0), 1, 8) := by kernel_rfl

theorem made_one (z : Value) (n : Nat) : madeCells #[z] n = (List.replicate n z).toArray := by
  rw [← toList_madeCells_one]

theorem make_bytes (n : Nat) (h : n ≤ 140737488355328) (w : World) :
    (Instr.makeSlice 22 (.int .i64 (n : Int)) (.int .i64 (n : Int))).run Try.prog w = .ok (.slice (some ⟨w.heap.size, 0, none⟩) n n) (w.alloc (.cells (row (zeros n)) 5)) := by
  obtain ⟨i, hi, hz, hs, hb⟩ := info_parts infoU8
  have hr := run_make (P := Try.prog) w 22 5 i _ Try.underlying22 hi hz .i64 .i64 n n (by omega) (by omega) (by rw [hb]; omega) (by omega)
  rw [hr, hs]
  simp only [Int.toNat_natCast, Value.cells, Nat.mul_one]
  rw [made_one]
  simp [row, zeros]; rfl

theorem make_rows (n : Nat) (h : n * 24 ≤ 140737488355328) (w : World) :
    (Instr.makeSlice 23 (.int .i64 (n : Int)) (.int .i64 (n : Int))).run Try.prog w = .ok (.slice (some ⟨w.heap.size, 0, none⟩) n n) (w.alloc (.cells (Array.replicate n (.slice none 0 0)) 22)) := by
  obtain ⟨i, hi, hz, hs, hb⟩ := info_parts infoBytes
  have hr := run_make (P := Try.prog) w 23 22 i _ Try.underlying23 hi hz .i64 .i64 n n (by omega) (by omega) (by rw [hb]; omega) (by omega)
  rw [hr, hs]
  simp only [Int.toNat_natCast, Value.cells, Nat.mul_one]
  rw [made_one]
  simp
end Go.Proofs.Ytakedococfklgaa
