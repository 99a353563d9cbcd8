/- Contracts over slots of the library's functions on maps' keys: the definitions. -/
import Derived.Test.YtdchhhedpipeiaaEvW
set_option linter.unusedVariables false
namespace Go.Ev
/-- maps.Keys: a closure that has caught the map's variable. -/
noncomputable def keysExt (g : FuncId) (key : Nat) (as : List Slot) (st : Store) : Option ExtR :=
  match as with
  | [.one (.own o)] => match st.get o with
    | some (.map _ _ _ _) => some ⟨Unit, some (), fun _ => (.one (.fn g [key]), st.put key (.cells [.own o]))⟩
    | _ => none
  | _ => none
/-- Entries as they stand in a map whose keys are ints. -/
def keysFine {V : Type} (l : List (Nat × (Int × V))) (c : Nat) : Prop :=
  (∀ e ∈ l, e.1 < c) ∧ (l.map (·.1)).Nodup ∧ (l.map (·.2.1)).Nodup ∧ (∀ e ∈ l, -9223372036854775808 ≤ e.2.1 ∧ e.2.1 ≤ 9223372036854775807) ∧ l.length ≤ 1000000000
noncomputable def sortedKeys {V : Type} (l : List (Nat × (Int × V))) (c : Nat) : Option (List Int) :=
  open Classical in if keysFine l c then some ((l.map (·.2.1)).mergeSort fun x y => decide (x ≤ y)) else none
/-- slices.Sorted of it. -/
noncomputable def sortedExt (g : FuncId) (v : Ty) (key : Nat) (as : List Slot) (st : Store) : Option ExtR :=
  match as with
  | [.one (.fn g' [c])] => bif Nat.beq g' g then (match st.get c with
    | some (.cells [.own o]) => match st.map o (.int .i64) v with
      | some (l, n) => some ⟨List Int, sortedKeys (V := v.den) l n, fun xs => (.one (.own key), st.put key (.row (.int .i64) xs))⟩
      | none => none
    | _ => none) else none
  | _ => none
end Go.Ev
