/- AdjoutTold: the row, out of the evaluation. -/
import Derived.Test.YtkjhofadaoofcaaRows
import Derived.WalkKit
import Derived.ProofKit
import Derived.OpenShut
import Derived.ChangeOld
import Derived.Below
import Derived.Carry
import Derived.SizedLaws
import Derived.Test.YtkjhofadaoofcaaQg
namespace Go.Proofs.Ytkjhofadaoofcaa.adjoutTold
open Go.ChangeShapes Go.WideShapes Go.ChangeAt Go.RowKit Go.Ev
set_option linter.unusedVariables false
theorem own : ownKnob Try.prog.godebug = none := by kernel_rfl
theorem laidOut : laidOutB Try.prog = true := by kernel_rfl
theorem ty22 : tyOf Try.prog 20 22 = some (Go.Ev.Ty.sl BE.tyL22_Ask) := by kernel_rfl
set_option maxRecDepth 100000 in
theorem lifted (os : Os) (started : os.Started) (H : Type) (enc : TypeId × Value → H) :
    ReturnsInHanded {} Try.checked os 3 .any (Rows.adjoutToldSpec.pre6 enc Try.prog Try.f3 Rows.adjoutToldRow.domain false) (Rows.adjoutToldSpec.post enc Try.prog Try.f3 false true false false) := by
  refine returnsInHanded_of_change_sized (C := Try.checked) own started (by kernel_rfl) Try.func3
    (ChangeSpec.witness6 (enc := enc) (C := Try.checked) false ⟨#[], #[.slice none 0 0], []⟩ 8 (by kernel_rfl) (by kernel_rfl) (by kernel_rfl) (by kernel_rfl)) ?_
  intro W base args ds gs before hval0 hW hcnd hsz0 _
  have hsz : (DataW.weightsEach Try.prog (Try.f3.params.toList ++ Rows.adjoutToldSpec.plain.varTypes Try.prog) (ds ++ gs)).all (· ≤ reachBytes) = true := hsz0
  have hval : ∀ (j : Nat) t v, Try.f3.params[j]? = some t → args[j]? = some v → Value.okWide Try.prog W .any base t v := hval0
  have hW' := hW
  obtain ⟨p, q, hA0, hV, rfl, hfz, hnd⟩ := hW
  have hA : DataW.TrodAll enc Try.prog W 0 (fun _ => true) true Try.f3.params.toList args.toList ds p := hA0
  rw [Try.params3] at hA hval hsz
  obtain ⟨v0, vs0, d0, ds0, p0, q0, hargs, rfl, rfl, h0, r0⟩ := trodAll_cons hA
  obtain ⟨rfl, rfl, rfl⟩ := trodAll_nil r0
  obtain rfl : args = #[v0] := by cases args; simp_all
  obtain ⟨rfl, rfl⟩ := trodVars_none hV
  have lt0 : ∀ x ∈ p0, x.block < W.heap.size := by obtain ⟨m, hm⟩ := h0; exact DataW.trod_lt m _ _ _ hm
  obtain ⟨y0, ⟨cs0, g0, e0⟩, f0⟩ := arg_rep ty22 (hval 0 22 v0 rfl rfl) h0 hsz (j := 0) rfl rfl
  have law : BE.L22_AdjoutTold.sp.F (y0, ()) = some (true, ()) := BE.AdjoutTold_F y0
  refine (BE.L22_AdjoutTold.ok (y0, ()) (true, ()) law W noBlock [v0] (fun b h => h.elim) ⟨⟨cs0, g0, e0⟩, trivial⟩).mono fun e W' ⟨v, he, hr, bel⟩ => ?_
  have hv := res_bool hr
  subst hv
  subst he
  exact ⟨_, rfl, _, _, _, [], _, [], hW', trodAll_mk1 (shut_bool Try.underlying4 _), (trodAll_cons_mk (Below.trod laidOut (by kernel_rfl) (of_decide_eq_true (by kernel_rfl)) h0 bel.base lt0) trodAll_mk0), rfl, bel.base.frame _, fun h => by cases h⟩
theorem over : Rows.adjoutToldRow.holds Try.pinned (OpenSpec.ofChange Rows.adjoutToldSpec) :=
  OpenClaim.holds_of_wide 3 Try.f3 rfl rfl rfl rfl rfl rfl rfl ⟨rfl, rfl, rfl, rfl, rfl⟩ rfl rfl rfl rfl rfl (by kernel_rfl) Try.func3 (by kernel_rfl)
    (of_decide_eq_true (by kernel_rfl)) (by unfold Func.isWrapper; first | (rw [if_pos (by decide +kernel)]; kernel_rfl) | (rw [if_neg (by decide +kernel)]; exact ⟨rfl, rfl⟩))
    (fun os started H enc _ => lifted os started H enc)
theorem proved : Rows.AdjoutToldSaid := over
end Go.Proofs.Ytkjhofadaoofcaa.adjoutTold
namespace Go.Proofs.Ytkjhofadaoofcaa
theorem adjoutTold_holds : Rows.AdjoutToldSaid := adjoutTold.proved
#print axioms adjoutTold_holds
end Go.Proofs.Ytkjhofadaoofcaa
