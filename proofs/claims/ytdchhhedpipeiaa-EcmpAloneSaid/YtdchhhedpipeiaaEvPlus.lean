/- More on contracts. -/
import Derived.Test.YtdchhhedpipeiaaEvKeys
import Derived.Test.YtdchhhedpipeiaaEvInsBy
set_option linter.unusedVariables false
namespace Go.Ev
/-- Rounds: more than anything in memory. -/
theorem FU_is : ∃ n : Nat, n = 18446744073709551616 := ⟨_, rfl⟩
noncomputable def FU : Nat := Classical.choose FU_is
theorem FU_eq : FU = 18446744073709551616 := Classical.choose_spec FU_is
variable {P : Program} {tr : Bool}
theorem pure_none {f : FuncId} {ins : List Ty} {outs : List OT} : Pure tr P f ⟨ins, outs, fun _ => none⟩ := fun x r h => by cases h
theorem by_none {f : FuncId} {ks : List AK} {outs : List OT} : By tr P f ⟨ks, outs, fun _ => none⟩ := fun x r x' h => by cases h
theorem by_or {f : FuncId} {ks : List AK} {outs : List OT} {F1 F2 : Data ks → Option (OTup outs × Data ks)} (h1 : By tr P f ⟨ks, outs, F1⟩) (h2 : By tr P f ⟨ks, outs, F2⟩) : By tr P f ⟨ks, outs, fun x => (F1 x).orElse fun _ => F2 x⟩ := by
  intro x r x' h
  have h : (F1 x).orElse (fun _ => F2 x) = some (r, x') := h
  cases hF : F1 x with
  | some y =>
    rw [hF] at h
    exact h1 x r x' (hF.trans h)
  | none =>
    rw [hF] at h
    exact h2 x r x' h
theorem Below.any {B : Nat} {w w' : World} (h : Below true B w w') : Below tr B w w' := ⟨h.os, h.tape, h.output, h.size, h.block, fun _ => h.drawn rfl⟩
end Go.Ev
