/- The law CollectorSteps: for every input the call returns true and the arguments read as before. No conditions. -/
import Derived.Test.YtboglaokdgnpaaaLStm
import Derived.Test.YtboglaokdgnpaaaA31
import Derived.Test.YtboglaokdgnpaaaA5
namespace Go.Proofs.Ytboglaokdgnpaaa
open Go Go.ChangeShapes Go.WideShapes Go.ChangeAt Go.RowKit Gf Sha

namespace PSt
set_option maxRecDepth 100000 in
theorem lifted (os : Os) (started : os.Started) (H : Type) (enc : TypeId × Value → H) :
  ReturnsInHanded {} Try.checked os 4 .any (Rows.collectorStepsSpec.pre6 enc Try.prog Try.f4 Rows.collectorStepsRow.domain false) (Rows.collectorStepsSpec.post enc Try.prog Try.f4 false true false false) := by
 refine returnsInHanded_of_change_sized (C := Try.checked) own started (by kernel_rfl) Try.func4
  (ChangeSpec.witness6 (enc := enc) (C := Try.checked) false ⟨#[], #[.agg #[.slice none 0 0, .slice none 0 0, .slice none 0 0, .slice none 0 0, .slice none 0 0, .slice none 0 0, .int .i64 0], .agg #[.int .i64 0, .slice none 0 0, .string (strB []), .int .i64 0, .slice none 0 0], .slice none 0 0], []⟩ 8 (by kernel_rfl) (by kernel_rfl) (by kernel_rfl) (by kernel_rfl)) ?_
 intro W base args ds gs before hval0 hW hcnd hsz0 _
 have hsz : (DataW.weightsEach Try.prog (Try.f4.params.toList ++ Rows.collectorStepsSpec.plain.varTypes Try.prog) (ds ++ gs)).all (· ≤ reachBytes) = true := hsz0
 clear hsz0
 have hval : ∀ (j : Nat) t v, Try.f4.params[j]? = some t → args[j]? = some v → Value.okWide Try.prog W .any base t v := hval0
 have hW' := hW
 obtain ⟨p, q, hA0, hV, rfl, hfz, hnd⟩ := hW
 have hA : DataW.TrodAll enc Try.prog W 0 (fun _ => true) true Try.f4.params.toList args.toList ds p := hA0
 rw [Try.params4] at hA hval hsz
 obtain ⟨v0, vs0, d0, ds0, p0, q0, hargs, rfl, rfl, h0, r0⟩ := trodAll_cons hA
 obtain ⟨v1, vs1, d1, ds1, p1, q1, rfl, rfl, rfl, h1, r1⟩ := trodAll_cons r0
 obtain ⟨v2, vs2, d2, ds2, p2, q2, rfl, rfl, rfl, h2, r2⟩ := trodAll_cons r1
 obtain ⟨rfl, rfl, rfl⟩ := trodAll_nil r2
 obtain rfl : args = #[v0, v1, v2] := by cases args; simp_all
 obtain ⟨rfl, rfl⟩ := trodVars_none hV
 obtain ⟨fs0, hfs0⟩ := si_struct
 obtain ⟨cs0, x0, rfl, hm0⟩ := open_rec hfs0 opens_si (hval 0 26 v0 rfl rfl) h0 (fun n hn => by have h9 := List.all_eq_true.1 hsz n (DataW.weights_mem_each (j := 0) (t := 26) (d := d0) rfl rfl n hn); simpa using h9)
 obtain ⟨fs1, hfs1⟩ := stp_struct
 obtain ⟨cs1, x1, rfl, hm1⟩ := open_rec hfs1 opens_stp (hval 1 42 v1 rfl rfl) h1 (fun n hn => by have h9 := List.all_eq_true.1 hsz n (DataW.weights_mem_each (j := 1) (t := 42) (d := d1) rfl rfl n hn); simpa using h9)
 obtain ⟨A2, n2, c2, rfl⟩ := okWide_slice Try.underlying22 (hval 2 22 v2 rfl rfl)
 obtain ⟨fu2, hf2⟩ := h2
 obtain ⟨m2, A2', n2', c2', e2, hm2⟩ := opens_list (s := 6) (b := 72) Try.underlying22 (by decide) (by kernel_rfl) (by kernel_rfl) opens_sp _ d2 _ _ hf2 (fun n hn => by have h9 := List.all_eq_true.1 hsz n (DataW.weights_mem_each (j := 2) (t := 22) (d := d2) rfl rfl n hn); simpa using h9) (by kernel_rfl)
 cases e2
 clear hA0 hval0
 refine (steps_walk cs0 x0 cs1 x1 A2 n2 c2 m2 W hm0 hm1 hm2).mono fun e W' ⟨he, hg⟩ => ?_
 subst he
 exact ⟨_, rfl, law_post laidOut rfl hW' (by rw [show Try.f4.params.toList = [26, 42, 22] from by rw [Try.params4]]; intro t ht; have h9 := List.all_eq_true.1 (show ([26, 42, 22].all fun u => Try.prog.readableRec u && decide (u < Try.prog.types.size)) = true by kernel_rfl) t ht; rw [Bool.and_eq_true, decide_eq_true_eq] at h9; exact h9) rfl Try.underlying4 rfl rfl rfl hg⟩

theorem over : Rows.collectorStepsRow.holds Try.pinned (OpenSpec.ofChange Rows.collectorStepsSpec) :=
 OpenClaim.holds_of_wide 4 Try.f4 rfl rfl rfl rfl rfl rfl rfl ⟨rfl, rfl, rfl, rfl, rfl⟩ rfl rfl rfl rfl rfl (by kernel_rfl) Try.func4 (by kernel_rfl)
  (of_decide_eq_true (by kernel_rfl)) (by unfold Func.isWrapper; first | (rw [if_pos (by decide +kernel)]; kernel_rfl) | (rw [if_neg (by decide +kernel)]; exact ⟨rfl, rfl⟩))
  (fun os started H enc _ => lifted os started H enc)
end PSt

/-- The statement. -/
theorem st_holds : Rows.CollectorStepsSaid := PSt.over
#print axioms st_holds
end Go.Proofs.Ytboglaokdgnpaaa
