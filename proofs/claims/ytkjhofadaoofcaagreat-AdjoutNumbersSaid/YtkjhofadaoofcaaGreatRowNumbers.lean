/- AdjoutNumbers: the row, out of the evaluation. -/
import Derived.Test.YtkjhofadaoofcaaGreatRows
import Derived.WalkKit
import Derived.ProofKit
import Derived.OpenShut
import Derived.ChangeOld
import Derived.Below
import Derived.Carry
import Derived.SizedLaws
import Derived.Test.YtkjhofadaoofcaaGreatQg
namespace Go.Proofs.YtkjhofadaoofcaaGreat.adjoutNumbers
open Go.ChangeShapes Go.WideShapes Go.ChangeAt Go.RowKit Go.Ev
set_option linter.unusedVariables false
theorem own : ownKnob Tryz.prog.godebug = none := by kernel_rfl
theorem laidOut : laidOutB Tryz.prog = true := by kernel_rfl
set_option maxRecDepth 100000 in
theorem lifted (os : Os) (started : os.Started) (H : Type) (enc : TypeId × Value → H) :
    ReturnsInHanded {} Tryz.checked os 4 .any (Rows.adjoutNumbersSpec.pre6 enc Tryz.prog Tryz.f4 Rows.adjoutNumbersRow.domain false) (Rows.adjoutNumbersSpec.post enc Tryz.prog Tryz.f4 false true false false) := by
  refine returnsInHanded_of_change_sized (C := Tryz.checked) own started (by kernel_rfl) Tryz.func4
    (ChangeSpec.witness6 (enc := enc) (C := Tryz.checked) false ⟨#[], #[], []⟩ 8 (by kernel_rfl) (by kernel_rfl) (by kernel_rfl) (by kernel_rfl)) ?_
  intro W base args ds gs before hval0 hW hcnd hsz0 _
  have hsz : (DataW.weightsEach Tryz.prog (Tryz.f4.params.toList ++ Rows.adjoutNumbersSpec.plain.varTypes Tryz.prog) (ds ++ gs)).all (· ≤ reachBytes) = true := hsz0
  have hval : ∀ (j : Nat) t v, Tryz.f4.params[j]? = some t → args[j]? = some v → Value.okWide Tryz.prog W .any base t v := hval0
  have hW' := hW
  obtain ⟨p, q, hA0, hV, rfl, hfz, hnd⟩ := hW
  have hA : DataW.TrodAll enc Tryz.prog W 0 (fun _ => true) true Tryz.f4.params.toList args.toList ds p := hA0
  rw [Tryz.params4] at hA hval hsz
  obtain ⟨rfl, rfl, rfl⟩ := trodAll_none hA
  obtain ⟨rfl, rfl⟩ := trodVars_none hV
  have law : BE.L22_AdjoutNumbers.sp.F () = some (true, ()) := BE.AdjoutNumbers_F
  refine (BE.L22_AdjoutNumbers.ok () (true, ()) law W noBlock [] (fun b h => h.elim) trivial).mono fun e W' ⟨v, he, hr, bel⟩ => ?_
  have hv := res_bool hr
  subst hv
  subst he
  exact ⟨_, rfl, _, _, _, [], _, [], hW', trodAll_mk1 (shut_bool Tryz.underlying4 _), trodAll_mk0, rfl, bel.base.frame _, fun h => by cases h⟩
theorem over : Rows.adjoutNumbersRow.holds Tryz.pinned (OpenSpec.ofChange Rows.adjoutNumbersSpec) :=
  OpenClaim.holds_of_wide 4 Tryz.f4 rfl rfl rfl rfl rfl rfl rfl ⟨rfl, rfl, rfl, rfl, rfl⟩ rfl rfl rfl rfl rfl (by kernel_rfl) Tryz.func4 (by kernel_rfl)
    (of_decide_eq_true (by kernel_rfl)) (by unfold Func.isWrapper; first | (rw [if_pos (by decide +kernel)]; kernel_rfl) | (rw [if_neg (by decide +kernel)]; exact ⟨rfl, rfl⟩))
    (fun os started H enc _ => lifted os started H enc)
theorem proved : Rows.AdjoutNumbersSaid := over
end Go.Proofs.YtkjhofadaoofcaaGreat.adjoutNumbers
namespace Go.Proofs.YtkjhofadaoofcaaGreat
theorem adjoutNumbers_holds : Rows.AdjoutNumbersSaid := adjoutNumbers.proved
#print axioms adjoutNumbers_holds
end Go.Proofs.YtkjhofadaoofcaaGreat
