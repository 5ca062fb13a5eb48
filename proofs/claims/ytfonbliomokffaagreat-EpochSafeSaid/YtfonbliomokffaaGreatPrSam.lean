/- The law EpochSafe: for every input the call returns true and the arguments read as before. No conditions. -/
import Derived.Test.YtfonbliomokffaaGreatLSam
import Derived.Test.YtfonbliomokffaaGreatOam
import Derived.Test.YtfonbliomokffaaGreatC2
namespace Go.Proofs.YtfonbliomokffaaGreat
open Go Go.ChangeShapes Go.WideShapes Go.ChangeAt Go.RowKit Gf Sha

namespace PSa
set_option maxRecDepth 100000 in
theorem lifted (os : Os) (started : os.Started) (H : Type) (enc : TypeId × Value → H) :
  ReturnsInHanded {} Tryz.checked os 6 .any (Rows.epochSafeSpec.pre6 enc Tryz.prog Tryz.f6 Rows.epochSafeRow.domain false) (Rows.epochSafeSpec.post enc Tryz.prog Tryz.f6 false true false false) := by
 refine returnsInHanded_of_change_sized (C := Tryz.checked) own started (by kernel_rfl) Tryz.func6
  (ChangeSpec.witness6 (enc := enc) (C := Tryz.checked) false ⟨#[], #[.slice none 0 0, .bool false], []⟩ 8 (by kernel_rfl) (by kernel_rfl) (by kernel_rfl) (by kernel_rfl)) ?_
 intro W base args ds gs before hval0 hW hcnd hsz0 _
 have hsz : (DataW.weightsEach Tryz.prog (Tryz.f6.params.toList ++ Rows.epochSafeSpec.plain.varTypes Tryz.prog) (ds ++ gs)).all (· ≤ reachBytes) = true := hsz0
 clear hsz0
 have hval : ∀ (j : Nat) t v, Tryz.f6.params[j]? = some t → args[j]? = some v → Value.okWide Tryz.prog W .any base t v := hval0
 have hW' := hW
 obtain ⟨p, q, hA0, hV, rfl, hfz, hnd⟩ := hW
 have hA : DataW.TrodAll enc Tryz.prog W 0 (fun _ => true) true Tryz.f6.params.toList args.toList ds p := hA0
 rw [Tryz.params6] at hA hval hsz
 obtain ⟨v0, vs0, d0, ds0, p0, q0, hargs, rfl, rfl, h0, r0⟩ := trodAll_cons hA
 obtain ⟨v1, vs1, d1, ds1, p1, q1, rfl, rfl, rfl, h1, r1⟩ := trodAll_cons r0
 obtain ⟨rfl, rfl, rfl⟩ := trodAll_nil r1
 obtain rfl : args = #[v0, v1] := by cases args; simp_all
 obtain ⟨rfl, rfl⟩ := trodVars_none hV
 obtain ⟨A0, n0, c0, rfl⟩ := okWide_slice Tryz.underlying43 (hval 0 43 v0 rfl rfl)
 obtain ⟨fu0, hf0⟩ := h0
 obtain ⟨m0, A0', n0', c0', e0, hm0⟩ := opens_list (s := 4) (b := 32) Tryz.underlying43 (by decide) (by kernel_rfl) (by kernel_rfl) (opens_ac) _ d0 _ _ hf0 (fun n hn => by have h9 := List.all_eq_true.1 hsz n (DataW.weights_mem_each (j := 0) (t := 43) (d := d0) rfl rfl n hn); simpa using h9) (by kernel_rfl)
 cases e0
 obtain ⟨a1, rfl, rfl, rfl⟩ := open_bool Tryz.underlying4 (hval 1 4 v1 rfl rfl) h1
 clear hA0 hval0
 refine (safe_walk A0 n0 c0 m0 a1 W hm0).mono fun e W' ⟨he, hg⟩ => ?_
 subst he
 exact ⟨_, rfl, law_post laidOut rfl hW' (by rw [show Tryz.f6.params.toList = [43, 4] from by rw [Tryz.params6]]; intro t ht; have h9 := List.all_eq_true.1 (show ([43, 4].all fun u => Tryz.prog.readableRec u && decide (u < Tryz.prog.types.size)) = true by kernel_rfl) t ht; rw [Bool.and_eq_true, decide_eq_true_eq] at h9; exact h9) rfl Tryz.underlying4 rfl rfl rfl hg⟩

theorem over : Rows.epochSafeRow.holds Tryz.pinned (OpenSpec.ofChange Rows.epochSafeSpec) :=
 OpenClaim.holds_of_wide 6 Tryz.f6 rfl rfl rfl rfl rfl rfl rfl ⟨rfl, rfl, rfl, rfl, rfl⟩ rfl rfl rfl rfl rfl (by kernel_rfl) Tryz.func6 (by kernel_rfl)
  (of_decide_eq_true (by kernel_rfl)) (by unfold Func.isWrapper; first | (rw [if_pos (by decide +kernel)]; kernel_rfl) | (rw [if_neg (by decide +kernel)]; exact ⟨rfl, rfl⟩))
  (fun os started H enc _ => lifted os started H enc)
end PSa

/-- The statement. -/
theorem sa_holds : Rows.EpochSafeSaid := PSa.over
#print axioms sa_holds
end Go.Proofs.YtfonbliomokffaaGreat
