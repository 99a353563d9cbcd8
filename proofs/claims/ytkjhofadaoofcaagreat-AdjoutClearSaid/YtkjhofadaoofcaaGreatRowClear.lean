/- AdjoutClear: the row, out of the evaluation. -/
import Derived.Test.YtkjhofadaoofcaaGreatRows
import Derived.WalkKit
import Derived.ProofKit
import Derived.OpenShut
import Derived.ChangeOld
import Derived.Below
import Derived.Carry
import Derived.SizedLaws
import Derived.Test.YtkjhofadaoofcaaGreatQk
namespace Go.Proofs.YtkjhofadaoofcaaGreat.adjoutClear
open Go.ChangeShapes Go.WideShapes Go.ChangeAt Go.RowKit Go.Ev
set_option linter.unusedVariables false
theorem own : ownKnob Tryz.prog.godebug = none := by kernel_rfl
theorem laidOut : laidOutB Tryz.prog = true := by kernel_rfl
theorem ty22 : tyOf Tryz.prog 20 22 = some (Go.Ev.Ty.sl BE.tyL22_Ask) := by kernel_rfl
set_option maxRecDepth 100000 in
theorem lifted (os : Os) (started : os.Started) (H : Type) (enc : TypeId × Value → H) :
    ReturnsInHanded {} Tryz.checked os 3 .any (Rows.adjoutClearSpec.pre6 enc Tryz.prog Tryz.f3 Rows.adjoutClearRow.domain false) (Rows.adjoutClearSpec.post enc Tryz.prog Tryz.f3 false true false false) := by
  refine returnsInHanded_of_change_sized (C := Tryz.checked) own started (by kernel_rfl) Tryz.func3
    (ChangeSpec.witness6 (enc := enc) (C := Tryz.checked) false ⟨#[], #[.slice none 0 0, .slice none 0 0], []⟩ 8 (by kernel_rfl) (by kernel_rfl) (by kernel_rfl) (by kernel_rfl)) ?_
  intro W base args ds gs before hval0 hW hcnd hsz0 _
  have hsz : (DataW.weightsEach Tryz.prog (Tryz.f3.params.toList ++ Rows.adjoutClearSpec.plain.varTypes Tryz.prog) (ds ++ gs)).all (· ≤ reachBytes) = true := hsz0
  have hval : ∀ (j : Nat) t v, Tryz.f3.params[j]? = some t → args[j]? = some v → Value.okWide Tryz.prog W .any base t v := hval0
  have hW' := hW
  obtain ⟨p, q, hA0, hV, rfl, hfz, hnd⟩ := hW
  have hA : DataW.TrodAll enc Tryz.prog W 0 (fun _ => true) true Tryz.f3.params.toList args.toList ds p := hA0
  rw [Tryz.params3] at hA hval hsz
  obtain ⟨v0, vs0, d0, ds0, p0, q0, hargs, rfl, rfl, h0, r0⟩ := trodAll_cons hA
  obtain ⟨v1, vs1, d1, ds1, p1, q1, rfl, rfl, rfl, h1, r1⟩ := trodAll_cons r0
  obtain ⟨rfl, rfl, rfl⟩ := trodAll_nil r1
  obtain rfl : args = #[v0, v1] := by cases args; simp_all
  obtain ⟨rfl, rfl⟩ := trodVars_none hV
  have lt0 : ∀ x ∈ p0, x.block < W.heap.size := by obtain ⟨m, hm⟩ := h0; exact DataW.trod_lt m _ _ _ hm
  obtain ⟨y0, ⟨cs0, g0, e0⟩, f0⟩ := arg_rep ty22 (hval 0 22 v0 rfl rfl) h0 hsz (j := 0) rfl rfl
  have lt1 : ∀ x ∈ p1, x.block < W.heap.size := by obtain ⟨m, hm⟩ := h1; exact DataW.trod_lt m _ _ _ hm
  obtain ⟨y1, ⟨cs1, g1, e1⟩, f1⟩ := arg_rep ty22 (hval 1 22 v1 rfl rfl) h1 hsz (j := 1) rfl rfl
  have law : BE.L22_AdjoutClear.sp.F (y0, y1, ()) = some (true, ()) := BE.AdjoutClear_F y0 y1
  refine (BE.L22_AdjoutClear.ok (y0, y1, ()) (true, ()) law W noBlock [v0, v1] (fun b h => h.elim) ⟨⟨cs0, g0, e0⟩, ⟨⟨cs1, g1, e1⟩, trivial⟩⟩).mono fun e W' ⟨v, he, hr, bel⟩ => ?_
  have hv := res_bool hr
  subst hv
  subst he
  exact ⟨_, rfl, _, _, _, [], _, [], hW', trodAll_mk1 (shut_bool Tryz.underlying4 _), (trodAll_cons_mk (Below.trod laidOut (by kernel_rfl) (of_decide_eq_true (by kernel_rfl)) h0 bel.base lt0) (trodAll_cons_mk (Below.trod laidOut (by kernel_rfl) (of_decide_eq_true (by kernel_rfl)) h1 bel.base lt1) trodAll_mk0)), rfl, bel.base.frame _, fun h => by cases h⟩
theorem over : Rows.adjoutClearRow.holds Tryz.pinned (OpenSpec.ofChange Rows.adjoutClearSpec) :=
  OpenClaim.holds_of_wide 3 Tryz.f3 rfl rfl rfl rfl rfl rfl rfl ⟨rfl, rfl, rfl, rfl, rfl⟩ rfl rfl rfl rfl rfl (by kernel_rfl) Tryz.func3 (by kernel_rfl)
    (of_decide_eq_true (by kernel_rfl)) (by unfold Func.isWrapper; first | (rw [if_pos (by decide +kernel)]; kernel_rfl) | (rw [if_neg (by decide +kernel)]; exact ⟨rfl, rfl⟩))
    (fun os started H enc _ => lifted os started H enc)
theorem proved : Rows.AdjoutClearSaid := over
end Go.Proofs.YtkjhofadaoofcaaGreat.adjoutClear
namespace Go.Proofs.YtkjhofadaoofcaaGreat
theorem adjoutClear_holds : Rows.AdjoutClearSaid := adjoutClear.proved
#print axioms adjoutClear_holds
end Go.Proofs.YtkjhofadaoofcaaGreat
