/- The law CollectorJudges: for every input the call returns true and the arguments read as before. No conditions. -/
import Derived.Test.YtboglaokdgnpaaaLJum
import Derived.Test.YtboglaokdgnpaaaA31
import Derived.Test.YtboglaokdgnpaaaA5
namespace Go.Proofs.Ytboglaokdgnpaaa
open Go Go.ChangeShapes Go.WideShapes Go.ChangeAt Go.RowKit Gf Sha

namespace PJu
set_option maxRecDepth 100000 in
theorem lifted (os : Os) (started : os.Started) (H : Type) (enc : TypeId × Value → H) :
  ReturnsInHanded {} Try.checked os 7 .any (Rows.collectorJudgesSpec.pre6 enc Try.prog Try.f7 Rows.collectorJudgesRow.domain false) (Rows.collectorJudgesSpec.post enc Try.prog Try.f7 false true false false) := by
 refine returnsInHanded_of_change_sized (C := Try.checked) own started (by kernel_rfl) Try.func7
  (ChangeSpec.witness6 (enc := enc) (C := Try.checked) false ⟨#[], #[.agg #[.slice none 0 0, .slice none 0 0, .slice none 0 0, .slice none 0 0, .slice none 0 0, .slice none 0 0, .int .i64 0], .slice none 0 0], []⟩ 8 (by kernel_rfl) (by kernel_rfl) (by kernel_rfl) (by kernel_rfl)) ?_
 intro W base args ds gs before hval0 hW hcnd hsz0 _
 have hsz : (DataW.weightsEach Try.prog (Try.f7.params.toList ++ Rows.collectorJudgesSpec.plain.varTypes Try.prog) (ds ++ gs)).all (· ≤ reachBytes) = true := hsz0
 clear hsz0
 have hval : ∀ (j : Nat) t v, Try.f7.params[j]? = some t → args[j]? = some v → Value.okWide Try.prog W .any base t v := hval0
 have hW' := hW
 obtain ⟨p, q, hA0, hV, rfl, hfz, hnd⟩ := hW
 have hA : DataW.TrodAll enc Try.prog W 0 (fun _ => true) true Try.f7.params.toList args.toList ds p := hA0
 rw [Try.params7] at hA hval hsz
 obtain ⟨v0, vs0, d0, ds0, p0, q0, hargs, rfl, rfl, h0, r0⟩ := trodAll_cons hA
 obtain ⟨v1, vs1, d1, ds1, p1, q1, rfl, rfl, rfl, h1, r1⟩ := trodAll_cons r0
 obtain ⟨rfl, rfl, rfl⟩ := trodAll_nil r1
 obtain rfl : args = #[v0, v1] := by cases args; simp_all
 obtain ⟨rfl, rfl⟩ := trodVars_none hV
 obtain ⟨fs0, hfs0⟩ := si_struct
 obtain ⟨cs0, x0, rfl, hm0⟩ := open_rec hfs0 opens_si (hval 0 26 v0 rfl rfl) h0 (fun n hn => by have h9 := List.all_eq_true.1 hsz n (DataW.weights_mem_each (j := 0) (t := 26) (d := d0) rfl rfl n hn); simpa using h9)
 obtain ⟨A1, n1, c1, rfl⟩ := okWide_slice Try.underlying35 (hval 1 35 v1 rfl rfl)
 obtain ⟨fu1, hf1⟩ := h1
 obtain ⟨m1, A1', n1', c1', e1, hm1⟩ := opens_list (s := 5) (b := 80) Try.underlying35 (by decide) (by kernel_rfl) (by kernel_rfl) opens_stp _ d1 _ _ hf1 (fun n hn => by have h9 := List.all_eq_true.1 hsz n (DataW.weights_mem_each (j := 1) (t := 35) (d := d1) rfl rfl n hn); simpa using h9) (by kernel_rfl)
 cases e1
 clear hA0 hval0
 refine (judges_walk cs0 x0 A1 n1 c1 m1 W hm0 hm1).mono fun e W' ⟨he, hg⟩ => ?_
 subst he
 exact ⟨_, rfl, law_post laidOut rfl hW' (by rw [show Try.f7.params.toList = [26, 35] from by rw [Try.params7]]; intro t ht; have h9 := List.all_eq_true.1 (show ([26, 35].all fun u => Try.prog.readableRec u && decide (u < Try.prog.types.size)) = true by kernel_rfl) t ht; rw [Bool.and_eq_true, decide_eq_true_eq] at h9; exact h9) rfl Try.underlying4 rfl rfl rfl hg⟩

theorem over : Rows.collectorJudgesRow.holds Try.pinned (OpenSpec.ofChange Rows.collectorJudgesSpec) :=
 OpenClaim.holds_of_wide 7 Try.f7 rfl rfl rfl rfl rfl rfl rfl ⟨rfl, rfl, rfl, rfl, rfl⟩ rfl rfl rfl rfl rfl (by kernel_rfl) Try.func7 (by kernel_rfl)
  (of_decide_eq_true (by kernel_rfl)) (by unfold Func.isWrapper; first | (rw [if_pos (by decide +kernel)]; kernel_rfl) | (rw [if_neg (by decide +kernel)]; exact ⟨rfl, rfl⟩))
  (fun os started H enc _ => lifted os started H enc)
end PJu

/-- The statement. -/
theorem ju_holds : Rows.CollectorJudgesSaid := PJu.over
#print axioms ju_holds
end Go.Proofs.Ytboglaokdgnpaaa
