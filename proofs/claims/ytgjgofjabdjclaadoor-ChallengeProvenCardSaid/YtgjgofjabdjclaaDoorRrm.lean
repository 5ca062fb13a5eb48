/- Contract of ref03.rotr at the rotations that SHA-256 takes. -/
import Derived.Test.YtgjgofjabdjclaaDoorA4
import Derived.Test.YtgjgofjabdjclaaDoorA2
import Derived.Deep.QuietTactic
import Derived.BigQuiet
namespace Go.Proofs.YtgjgofjabdjclaaDoor
open Go.RowKit Gf Sha

theorem rot_w' (x : UInt32) (n : Nat) (h0 : 0 < n) (h : n < 32) : bits .or .u32 (wv x / 2 ^ n) (wv x * 2 ^ (32 - n) % 4294967296) = wv (rr x (UInt32.ofNat n)) := by
  rw [← rot_w x n h0 h, shl_w x (32 - n) (by omega), shr_w x n h, or_w, or_w, UInt32.or_comm]

theorem orr_2 (x : UInt32) : bits .or .u32 (wv x / 4) (wv x * 1073741824 % 4294967296) = wv (rr x 2) := rot_w' x 2 (by decide) (by decide)
theorem orr_6 (x : UInt32) : bits .or .u32 (wv x / 64) (wv x * 67108864 % 4294967296) = wv (rr x 6) := rot_w' x 6 (by decide) (by decide)
theorem orr_7 (x : UInt32) : bits .or .u32 (wv x / 128) (wv x * 33554432 % 4294967296) = wv (rr x 7) := rot_w' x 7 (by decide) (by decide)
theorem orr_11 (x : UInt32) : bits .or .u32 (wv x / 2048) (wv x * 2097152 % 4294967296) = wv (rr x 11) := rot_w' x 11 (by decide) (by decide)
theorem orr_13 (x : UInt32) : bits .or .u32 (wv x / 8192) (wv x * 524288 % 4294967296) = wv (rr x 13) := rot_w' x 13 (by decide) (by decide)
theorem orr_17 (x : UInt32) : bits .or .u32 (wv x / 131072) (wv x * 32768 % 4294967296) = wv (rr x 17) := rot_w' x 17 (by decide) (by decide)
theorem orr_18 (x : UInt32) : bits .or .u32 (wv x / 262144) (wv x * 16384 % 4294967296) = wv (rr x 18) := rot_w' x 18 (by decide) (by decide)
theorem orr_19 (x : UInt32) : bits .or .u32 (wv x / 524288) (wv x * 8192 % 4294967296) = wv (rr x 19) := rot_w' x 19 (by decide) (by decide)
theorem orr_22 (x : UInt32) : bits .or .u32 (wv x / 4194304) (wv x * 1024 % 4294967296) = wv (rr x 22) := rot_w' x 22 (by decide) (by decide)
theorem orr_25 (x : UInt32) : bits .or .u32 (wv x / 33554432) (wv x * 128 % 4294967296) = wv (rr x 25) := rot_w' x 25 (by decide) (by decide)
attribute [local go_sem] orr_2 orr_6 orr_7 orr_11 orr_13 orr_17 orr_18 orr_19 orr_22 orr_25
theorem rr2_any (x : UInt32) (w : World) :
    Calls Tryd.prog 103 #[W x, .int .i64 2] w fun e w' => e = .returned (W (rr x 2)) ∧ ∃ m, w' = w.drewN m := by
  go_enter Tryd.func103, Tryd.ntmps103
  go_wp2_with fail
  go_quiet (fail)
  go_wp2_with fail
  go_ret
  exact ⟨rfl, _, rfl⟩
theorem rr6_any (x : UInt32) (w : World) :
    Calls Tryd.prog 103 #[W x, .int .i64 6] w fun e w' => e = .returned (W (rr x 6)) ∧ ∃ m, w' = w.drewN m := by
  go_enter Tryd.func103, Tryd.ntmps103
  go_wp2_with fail
  go_quiet (fail)
  go_wp2_with fail
  go_ret
  exact ⟨rfl, _, rfl⟩
theorem rr7_any (x : UInt32) (w : World) :
    Calls Tryd.prog 103 #[W x, .int .i64 7] w fun e w' => e = .returned (W (rr x 7)) ∧ ∃ m, w' = w.drewN m := by
  go_enter Tryd.func103, Tryd.ntmps103
  go_wp2_with fail
  go_quiet (fail)
  go_wp2_with fail
  go_ret
  exact ⟨rfl, _, rfl⟩
theorem rr11_any (x : UInt32) (w : World) :
    Calls Tryd.prog 103 #[W x, .int .i64 11] w fun e w' => e = .returned (W (rr x 11)) ∧ ∃ m, w' = w.drewN m := by
  go_enter Tryd.func103, Tryd.ntmps103
  go_wp2_with fail
  go_quiet (fail)
  go_wp2_with fail
  go_ret
  exact ⟨rfl, _, rfl⟩
theorem rr13_any (x : UInt32) (w : World) :
    Calls Tryd.prog 103 #[W x, .int .i64 13] w fun e w' => e = .returned (W (rr x 13)) ∧ ∃ m, w' = w.drewN m := by
  go_enter Tryd.func103, Tryd.ntmps103
  go_wp2_with fail
  go_quiet (fail)
  go_wp2_with fail
  go_ret
  exact ⟨rfl, _, rfl⟩
theorem rr17_any (x : UInt32) (w : World) :
    Calls Tryd.prog 103 #[W x, .int .i64 17] w fun e w' => e = .returned (W (rr x 17)) ∧ ∃ m, w' = w.drewN m := by
  go_enter Tryd.func103, Tryd.ntmps103
  go_wp2_with fail
  go_quiet (fail)
  go_wp2_with fail
  go_ret
  exact ⟨rfl, _, rfl⟩
theorem rr18_any (x : UInt32) (w : World) :
    Calls Tryd.prog 103 #[W x, .int .i64 18] w fun e w' => e = .returned (W (rr x 18)) ∧ ∃ m, w' = w.drewN m := by
  go_enter Tryd.func103, Tryd.ntmps103
  go_wp2_with fail
  go_quiet (fail)
  go_wp2_with fail
  go_ret
  exact ⟨rfl, _, rfl⟩
theorem rr19_any (x : UInt32) (w : World) :
    Calls Tryd.prog 103 #[W x, .int .i64 19] w fun e w' => e = .returned (W (rr x 19)) ∧ ∃ m, w' = w.drewN m := by
  go_enter Tryd.func103, Tryd.ntmps103
  go_wp2_with fail
  go_quiet (fail)
  go_wp2_with fail
  go_ret
  exact ⟨rfl, _, rfl⟩
theorem rr22_any (x : UInt32) (w : World) :
    Calls Tryd.prog 103 #[W x, .int .i64 22] w fun e w' => e = .returned (W (rr x 22)) ∧ ∃ m, w' = w.drewN m := by
  go_enter Tryd.func103, Tryd.ntmps103
  go_wp2_with fail
  go_quiet (fail)
  go_wp2_with fail
  go_ret
  exact ⟨rfl, _, rfl⟩
theorem rr25_any (x : UInt32) (w : World) :
    Calls Tryd.prog 103 #[W x, .int .i64 25] w fun e w' => e = .returned (W (rr x 25)) ∧ ∃ m, w' = w.drewN m := by
  go_enter Tryd.func103, Tryd.ntmps103
  go_wp2_with fail
  go_quiet (fail)
  go_wp2_with fail
  go_ret
  exact ⟨rfl, _, rfl⟩
end Go.Proofs.YtgjgofjabdjclaaDoor
