/- EcmpOrder: the row, out of the evaluation. -/
import Derived.Test.YtdchhhedpipeiaaRows
import Derived.Test.YtdchhhedpipeiaaEP14
import Derived.Test.YtdchhhedpipeiaaEvY
import Derived.WalkKit
import Derived.ProofKit
import Derived.OpenShut
import Derived.ChangeOld
import Derived.Below
import Derived.Carry
import Derived.SizedLaws
namespace Go.Proofs.Ytdchhhedpipeiaa.ecmpOrder
open Go.ChangeShapes Go.WideShapes Go.ChangeAt Go.RowKit Go.Ev
set_option linter.unusedVariables false
theorem own : ownKnob Try.prog.godebug = none := by kernel_rfl
theorem laidOut : laidOutB Try.prog = true := by kernel_rfl
theorem ty3 : tyOf Try.prog 20 3 = some BE.ty2 := by kernel_rfl
theorem ty22 : tyOf Try.prog 20 22 = some BE.ty22 := by kernel_rfl
set_option maxRecDepth 100000 in
theorem lifted (os : Os) (started : os.Started) (H : Type) (enc : TypeId × Value → H) :
    ReturnsInHanded {} Try.checked os 5 .any (Rows.ecmpOrderSpec.pre6 enc Try.prog Try.f5 Rows.ecmpOrderRow.domain false) (Rows.ecmpOrderSpec.post enc Try.prog Try.f5 false true false false) := by
  refine returnsInHanded_of_change_sized (C := Try.checked) own started (by kernel_rfl) Try.func5
    (ChangeSpec.witness6 (enc := enc) (C := Try.checked) false ⟨#[], #[.slice none 0 0, .int .i64 0, .int .i64 0], []⟩ 8 (by kernel_rfl) (by kernel_rfl) (by kernel_rfl) (by kernel_rfl)) ?_
  intro W base args ds gs before hval0 hW hcnd hsz0 _
  have hsz : (DataW.weightsEach Try.prog (Try.f5.params.toList ++ Rows.ecmpOrderSpec.plain.varTypes Try.prog) (ds ++ gs)).all (· ≤ reachBytes) = true := hsz0
  have hval : ∀ (j : Nat) t v, Try.f5.params[j]? = some t → args[j]? = some v → Value.okWide Try.prog W .any base t v := hval0
  have hW' := hW
  obtain ⟨p, q, hA0, hV, rfl, hfz, hnd⟩ := hW
  have hA : DataW.TrodAll enc Try.prog W 0 (fun _ => true) true Try.f5.params.toList args.toList ds p := hA0
  rw [Try.params5] at hA hval hsz
  obtain ⟨v0, vs0, d0, ds0, p0, q0, hargs, rfl, rfl, h0, r0⟩ := trodAll_cons hA
  obtain ⟨v1, vs1, d1, ds1, p1, q1, rfl, rfl, rfl, h1, r1⟩ := trodAll_cons r0
  obtain ⟨v2, vs2, d2, ds2, p2, q2, rfl, rfl, rfl, h2, r2⟩ := trodAll_cons r1
  obtain ⟨rfl, rfl, rfl⟩ := trodAll_nil r2
  obtain rfl : args = #[v0, v1, v2] := by cases args; simp_all
  obtain ⟨rfl, rfl⟩ := trodVars_none hV
  have lt0 : ∀ x ∈ p0, x.block < W.heap.size := by obtain ⟨m, hm⟩ := h0; exact DataW.trod_lt m _ _ _ hm
  obtain ⟨y0, ⟨cs0, g0, e0⟩, f0⟩ := arg_rep ty22 (hval 0 22 v0 rfl rfl) h0 hsz (j := 0) rfl rfl
  have lt1 : ∀ x ∈ p1, x.block < W.heap.size := by obtain ⟨m, hm⟩ := h1; exact DataW.trod_lt m _ _ _ hm
  obtain ⟨y1, ⟨cs1, g1, e1⟩, f1⟩ := arg_rep ty3 (hval 1 3 v1 rfl rfl) h1 hsz (j := 1) rfl rfl
  have lt2 : ∀ x ∈ p2, x.block < W.heap.size := by obtain ⟨m, hm⟩ := h2; exact DataW.trod_lt m _ _ _ hm
  obtain ⟨y2, ⟨cs2, g2, e2⟩, f2⟩ := arg_rep ty3 (hval 2 3 v2 rfl rfl) h2 hsz (j := 2) rfl rfl
  have law : BE.Order.sp.F (y0, y1, y2, ()) = some (true, ()) := BE.Order_eq y0 y1 y2
  refine (BE.Order.ok (y0, y1, y2, ()) (true, ()) law W noBlock [v0, v1, v2] (fun b h => h.elim) ⟨⟨cs0, g0, e0⟩, ⟨⟨cs1, g1, e1⟩, ⟨⟨cs2, g2, e2⟩, trivial⟩⟩⟩).mono fun e W' ⟨v, he, hr, bel⟩ => ?_
  have hv := res_bool hr
  subst hv
  subst he
  exact ⟨_, rfl, _, _, _, [], _, [], hW', trodAll_mk1 (shut_bool Try.underlying4 _), (trodAll_cons_mk (Below.trod laidOut (by kernel_rfl) (of_decide_eq_true (by kernel_rfl)) h0 bel.base lt0) (trodAll_cons_mk (Below.trod laidOut (by kernel_rfl) (of_decide_eq_true (by kernel_rfl)) h1 bel.base lt1) (trodAll_cons_mk (Below.trod laidOut (by kernel_rfl) (of_decide_eq_true (by kernel_rfl)) h2 bel.base lt2) trodAll_mk0))), rfl, bel.base.frame _, fun h => by cases h⟩
theorem over : Rows.ecmpOrderRow.holds Try.pinned (OpenSpec.ofChange Rows.ecmpOrderSpec) :=
  OpenClaim.holds_of_wide 5 Try.f5 rfl rfl rfl rfl rfl rfl rfl ⟨rfl, rfl, rfl, rfl, rfl⟩ rfl rfl rfl rfl rfl (by kernel_rfl) Try.func5 (by kernel_rfl)
    (of_decide_eq_true (by kernel_rfl)) (by unfold Func.isWrapper; first | (rw [if_pos (by decide +kernel)]; kernel_rfl) | (rw [if_neg (by decide +kernel)]; exact ⟨rfl, rfl⟩))
    (fun os started H enc _ => lifted os started H enc)
theorem proved : Rows.EcmpOrderSaid := over
end Go.Proofs.Ytdchhhedpipeiaa.ecmpOrder
namespace Go.Proofs.Ytdchhhedpipeiaa
/-- The row, under a short name, for the claim. -/
theorem ecmpOrder_holds : Rows.EcmpOrderSaid := ecmpOrder.proved
#print axioms ecmpOrder_holds
end Go.Proofs.Ytdchhhedpipeiaa
