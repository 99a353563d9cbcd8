/- EcmpRules: the row, out of the evaluation. -/
import Derived.Test.YtdchhhedpipeiaaRows
import Derived.Test.YtdchhhedpipeiaaEP12
import Derived.Test.YtdchhhedpipeiaaEvY
import Derived.WalkKit
import Derived.ProofKit
import Derived.OpenShut
import Derived.ChangeOld
import Derived.Below
import Derived.Carry
import Derived.SizedLaws
namespace Go.Proofs.Ytdchhhedpipeiaa.ecmpRules
open Go.ChangeShapes Go.WideShapes Go.ChangeAt Go.RowKit Go.Ev
set_option linter.unusedVariables false
theorem own : ownKnob Try.prog.godebug = none := by kernel_rfl
theorem laidOut : laidOutB Try.prog = true := by kernel_rfl
theorem ty3 : tyOf Try.prog 20 3 = some BE.ty2 := by kernel_rfl
theorem ty22 : tyOf Try.prog 20 22 = some BE.ty22 := by kernel_rfl
set_option maxRecDepth 100000 in
theorem lifted (os : Os) (started : os.Started) (H : Type) (enc : TypeId × Value → H) :
    ReturnsInHanded {} Try.checked os 6 .any (Rows.ecmpRulesSpec.pre6 enc Try.prog Try.f6 Rows.ecmpRulesRow.domain false) (Rows.ecmpRulesSpec.post enc Try.prog Try.f6 false true false false) := by
  refine returnsInHanded_of_change_sized (C := Try.checked) own started (by kernel_rfl) Try.func6
    (ChangeSpec.witness6 (enc := enc) (C := Try.checked) false ⟨#[], #[.slice none 0 0, .int .i64 0], []⟩ 8 (by kernel_rfl) (by kernel_rfl) (by kernel_rfl) (by kernel_rfl)) ?_
  intro W base args ds gs before hval0 hW hcnd hsz0 _
  have hsz : (DataW.weightsEach Try.prog (Try.f6.params.toList ++ Rows.ecmpRulesSpec.plain.varTypes Try.prog) (ds ++ gs)).all (· ≤ reachBytes) = true := hsz0
  have hval : ∀ (j : Nat) t v, Try.f6.params[j]? = some t → args[j]? = some v → Value.okWide Try.prog W .any base t v := hval0
  have hW' := hW
  obtain ⟨p, q, hA0, hV, rfl, hfz, hnd⟩ := hW
  have hA : DataW.TrodAll enc Try.prog W 0 (fun _ => true) true Try.f6.params.toList args.toList ds p := hA0
  rw [Try.params6] at hA hval hsz
  obtain ⟨v0, vs0, d0, ds0, p0, q0, hargs, rfl, rfl, h0, r0⟩ := trodAll_cons hA
  obtain ⟨v1, vs1, d1, ds1, p1, q1, rfl, rfl, rfl, h1, r1⟩ := trodAll_cons r0
  obtain ⟨rfl, rfl, rfl⟩ := trodAll_nil r1
  obtain rfl : args = #[v0, v1] := by cases args; simp_all
  obtain ⟨rfl, rfl⟩ := trodVars_none hV
  have lt0 : ∀ x ∈ p0, x.block < W.heap.size := by obtain ⟨m, hm⟩ := h0; exact DataW.trod_lt m _ _ _ hm
  obtain ⟨y0, ⟨cs0, g0, e0⟩, f0⟩ := arg_rep ty22 (hval 0 22 v0 rfl rfl) h0 hsz (j := 0) rfl rfl
  have lt1 : ∀ x ∈ p1, x.block < W.heap.size := by obtain ⟨m, hm⟩ := h1; exact DataW.trod_lt m _ _ _ hm
  obtain ⟨y1, ⟨cs1, g1, e1⟩, f1⟩ := arg_rep ty3 (hval 1 3 v1 rfl rfl) h1 hsz (j := 1) rfl rfl
  have law : BE.Rules.sp.F (y0, y1, ()) = some (true, ()) := BE.Rules_eq y0 y1
  refine (BE.Rules.ok (y0, y1, ()) (true, ()) law W noBlock [v0, v1] (fun b h => h.elim) ⟨⟨cs0, g0, e0⟩, ⟨⟨cs1, g1, e1⟩, trivial⟩⟩).mono fun e W' ⟨v, he, hr, bel⟩ => ?_
  have hv := res_bool hr
  subst hv
  subst he
  exact ⟨_, rfl, _, _, _, [], _, [], hW', trodAll_mk1 (shut_bool Try.underlying4 _), (trodAll_cons_mk (Below.trod laidOut (by kernel_rfl) (of_decide_eq_true (by kernel_rfl)) h0 bel.base lt0) (trodAll_cons_mk (Below.trod laidOut (by kernel_rfl) (of_decide_eq_true (by kernel_rfl)) h1 bel.base lt1) trodAll_mk0)), rfl, bel.base.frame _, fun h => by cases h⟩
theorem over : Rows.ecmpRulesRow.holds Try.pinned (OpenSpec.ofChange Rows.ecmpRulesSpec) :=
  OpenClaim.holds_of_wide 6 Try.f6 rfl rfl rfl rfl rfl rfl rfl ⟨rfl, rfl, rfl, rfl, rfl⟩ rfl rfl rfl rfl rfl (by kernel_rfl) Try.func6 (by kernel_rfl)
    (of_decide_eq_true (by kernel_rfl)) (by unfold Func.isWrapper; first | (rw [if_pos (by decide +kernel)]; kernel_rfl) | (rw [if_neg (by decide +kernel)]; exact ⟨rfl, rfl⟩))
    (fun os started H enc _ => lifted os started H enc)
theorem proved : Rows.EcmpRulesSaid := over
end Go.Proofs.Ytdchhhedpipeiaa.ecmpRules
namespace Go.Proofs.Ytdchhhedpipeiaa
/-- The row, under a short name, for the claim. -/
theorem ecmpRules_holds : Rows.EcmpRulesSaid := ecmpRules.proved
#print axioms ecmpRules_holds
end Go.Proofs.Ytdchhhedpipeiaa
