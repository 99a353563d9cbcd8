/-
  No cell of these rows narrows 'for every input' (looked for: loops, veiled, ifaces, maps, wideKeys, modest, calm, conditions, laid).
  DERIVED. THE GIVEN ROWS OF THIS SEAT. 6 by the template 'for every input the law returns true; each argument reads behind the call as it read before'; 0 by the template 'total and deterministic' (their statements: YtdchhhedpipeiaaTotals.lean).
  GIVEN WITH THE SEED: the statements are not yours to turn. If you find one false, say at which input.
  Laid BY PROGRAM, IN A SANDBOX (cutbox-rows.mjs): the forced cells as the released guide's own fill.sh prints them over the translation 4d2e2beadb8b489d… (all of the seat's roots in one cut). By AI agents, Wed Nov 11 2026. No macro, syntax, notation, axiom, sorry.
-/
import Derived.Test.YtdchhhedpipeiaaChecked
import GoSem.Claim
import GoSem.ClaimJoined
import GoSem.ClaimMapViews
import Derived.JoinedTies
import Derived.KernelRfl
namespace Go.Proofs.Ytdchhhedpipeiaa
/- THE CELL 'sum', in the pinned program and in every row, IS THE sha256 OF THE DUMP (.gsa) THAT YtdchhhedpipeiaaProg.lean LOADS. Nothing in Lean hashes anything: it is a label: what it is worth is what the hold of that sum in a sandbox is worth. -/
noncomputable def Try.pinned : Pinned := { name := "ytdchhhedpipeiaa", sum := "4d2e2beadb8b489d116129a1111a571432e79dbdfc4bbc6eb0699a6d4dc9e458", checked := Try.checked }
namespace Rows
def none {H : Type} : Left H := { results := [], args := [] }

/-- 'signpostlaw18.EcmpWidths': WHATEVER THE INPUT: true; the input reads as it did. -/
def ecmpWidthsSpec : ChangeSpec := { name := "ecmpWidths", fn := fun _ => fun
  | [d1, d2, d3] => { results := [.lit (.bool true)], args := [d1, d2, d3] }
  | _ => none }
def ecmpWidthsRow : OpenClaim := { program := "ytdchhhedpipeiaa", sum := "4d2e2beadb8b489d116129a1111a571432e79dbdfc4bbc6eb0699a6d4dc9e458", func := "signpost/signpostlaw18.EcmpWidths", spec := "ecmpWidths", inPlace := ["math.Float64frombits", "math.Float64bits"], unfollowed := true, recurses := true, apart := false }
def EcmpWidthsSaid : Prop := ecmpWidthsRow.holds Try.pinned (OpenSpec.ofChange ecmpWidthsSpec)

/-- ITS FALSE NEIGHBOUR: 'it returns false'. Refute it at one input. -/
def ecmpWidthsWrong : ChangeSpec := { name := "ecmpWidths", fn := fun _ => fun
  | [d1, d2, d3] => { results := [.lit (.bool false)], args := [d1, d2, d3] }
  | _ => none }
def EcmpWidthsWrongFalsely : Prop := ecmpWidthsRow.holds Try.pinned (OpenSpec.ofChange ecmpWidthsWrong)

/-- 'signpostlaw18.EcmpAlone': WHATEVER THE INPUT: true; the input reads as it did. -/
def ecmpAloneSpec : ChangeSpec := { name := "ecmpAlone", fn := fun _ => fun
  | [d1, d2, d3] => { results := [.lit (.bool true)], args := [d1, d2, d3] }
  | _ => none }
def ecmpAloneRow : OpenClaim := { program := "ytdchhhedpipeiaa", sum := "4d2e2beadb8b489d116129a1111a571432e79dbdfc4bbc6eb0699a6d4dc9e458", func := "signpost/signpostlaw18.EcmpAlone", spec := "ecmpAlone", inPlace := ["math.Float64frombits", "math.Float64bits"], unfollowed := true, recurses := true, apart := false }
def EcmpAloneSaid : Prop := ecmpAloneRow.holds Try.pinned (OpenSpec.ofChange ecmpAloneSpec)

/-- ITS FALSE NEIGHBOUR: 'it returns false'. Refute it at one input. -/
def ecmpAloneWrong : ChangeSpec := { name := "ecmpAlone", fn := fun _ => fun
  | [d1, d2, d3] => { results := [.lit (.bool false)], args := [d1, d2, d3] }
  | _ => none }
def EcmpAloneWrongFalsely : Prop := ecmpAloneRow.holds Try.pinned (OpenSpec.ofChange ecmpAloneWrong)

/-- 'signpostlaw18.EcmpOrder': WHATEVER THE INPUT: true; the input reads as it did. -/
def ecmpOrderSpec : ChangeSpec := { name := "ecmpOrder", fn := fun _ => fun
  | [d1, d2, d3] => { results := [.lit (.bool true)], args := [d1, d2, d3] }
  | _ => none }
def ecmpOrderRow : OpenClaim := { program := "ytdchhhedpipeiaa", sum := "4d2e2beadb8b489d116129a1111a571432e79dbdfc4bbc6eb0699a6d4dc9e458", func := "signpost/signpostlaw18.EcmpOrder", spec := "ecmpOrder", inPlace := ["math.Float64frombits", "math.Float64bits"], unfollowed := true, recurses := true, apart := false }
def EcmpOrderSaid : Prop := ecmpOrderRow.holds Try.pinned (OpenSpec.ofChange ecmpOrderSpec)

/-- ITS FALSE NEIGHBOUR: 'it returns false'. Refute it at one input. -/
def ecmpOrderWrong : ChangeSpec := { name := "ecmpOrder", fn := fun _ => fun
  | [d1, d2, d3] => { results := [.lit (.bool false)], args := [d1, d2, d3] }
  | _ => none }
def EcmpOrderWrongFalsely : Prop := ecmpOrderRow.holds Try.pinned (OpenSpec.ofChange ecmpOrderWrong)

/-- 'signpostlaw18.EcmpRules': WHATEVER THE INPUT: true; the input reads as it did. -/
def ecmpRulesSpec : ChangeSpec := { name := "ecmpRules", fn := fun _ => fun
  | [d1, d2] => { results := [.lit (.bool true)], args := [d1, d2] }
  | _ => none }
def ecmpRulesRow : OpenClaim := { program := "ytdchhhedpipeiaa", sum := "4d2e2beadb8b489d116129a1111a571432e79dbdfc4bbc6eb0699a6d4dc9e458", func := "signpost/signpostlaw18.EcmpRules", spec := "ecmpRules", inPlace := ["math.Float64frombits", "math.Float64bits"], unfollowed := true, recurses := true, apart := false }
def EcmpRulesSaid : Prop := ecmpRulesRow.holds Try.pinned (OpenSpec.ofChange ecmpRulesSpec)

/-- ITS FALSE NEIGHBOUR: 'it returns false'. Refute it at one input. -/
def ecmpRulesWrong : ChangeSpec := { name := "ecmpRules", fn := fun _ => fun
  | [d1, d2] => { results := [.lit (.bool false)], args := [d1, d2] }
  | _ => none }
def EcmpRulesWrongFalsely : Prop := ecmpRulesRow.holds Try.pinned (OpenSpec.ofChange ecmpRulesWrong)

/-- 'signpostlaw18.EcmpNumbers': WHATEVER THE INPUT: true; the input reads as it did. -/
def ecmpNumbersSpec : ChangeSpec := { name := "ecmpNumbers", fn := fun _ => fun
  | [] => { results := [.lit (.bool true)], args := [] }
  | _ => none }
def ecmpNumbersRow : OpenClaim := { program := "ytdchhhedpipeiaa", sum := "4d2e2beadb8b489d116129a1111a571432e79dbdfc4bbc6eb0699a6d4dc9e458", func := "signpost/signpostlaw18.EcmpNumbers", spec := "ecmpNumbers", inPlace := ["math.Float64frombits", "math.Float64bits"], unfollowed := true, recurses := true, apart := false }
def EcmpNumbersSaid : Prop := ecmpNumbersRow.holds Try.pinned (OpenSpec.ofChange ecmpNumbersSpec)

/-- ITS FALSE NEIGHBOUR: 'it returns false'. Refute it at one input. -/
def ecmpNumbersWrong : ChangeSpec := { name := "ecmpNumbers", fn := fun _ => fun
  | [] => { results := [.lit (.bool false)], args := [] }
  | _ => none }
def EcmpNumbersWrongFalsely : Prop := ecmpNumbersRow.holds Try.pinned (OpenSpec.ofChange ecmpNumbersWrong)

/-- 'signpostlaw18.EcmpTells': WHATEVER THE INPUT: true; the input reads as it did. -/
def ecmpTellsSpec : ChangeSpec := { name := "ecmpTells", fn := fun _ => fun
  | [d1, d2, d3, d4] => { results := [.lit (.bool true)], args := [d1, d2, d3, d4] }
  | _ => none }
def ecmpTellsRow : OpenClaim := { program := "ytdchhhedpipeiaa", sum := "4d2e2beadb8b489d116129a1111a571432e79dbdfc4bbc6eb0699a6d4dc9e458", func := "signpost/signpostlaw18.EcmpTells", spec := "ecmpTells", inPlace := ["math.Float64frombits", "math.Float64bits"], unfollowed := true, recurses := true, apart := false }
def EcmpTellsSaid : Prop := ecmpTellsRow.holds Try.pinned (OpenSpec.ofChange ecmpTellsSpec)

/-- ITS FALSE NEIGHBOUR: 'it returns false'. Refute it at one input. -/
def ecmpTellsWrong : ChangeSpec := { name := "ecmpTells", fn := fun _ => fun
  | [d1, d2, d3, d4] => { results := [.lit (.bool false)], args := [d1, d2, d3, d4] }
  | _ => none }
def EcmpTellsWrongFalsely : Prop := ecmpTellsRow.holds Try.pinned (OpenSpec.ofChange ecmpTellsWrong)

/- THE SECOND FORM. 'bulk': how many values and letters a reading holds, each counted each time it is reached (what is shared counts as often as it is met; a slice's spare places count too). A statement '..UptoSaid' is the law's where the arguments, and the package variables that the reading takes, are together of bulk at most 1048576: NARROWER than '..Said'. Prove '..Said' where nothing that the law and all that it calls make is longer than what came in: it says more and counts as full. Else prove '..UptoSaid'. A law counts once. -/
mutual
def uptoBulk {H : Type} : DataW H → Nat
  | .lit (.string bytes) => bytes.length + 1
  | .lit _ => 1
  | .nil => 1
  | .ptr d => uptoBulk d + 1
  | .slice elems spare => uptoBulkAll elems + uptoBulkAll spare + 1
  | .agg parts => uptoBulkAll parts + 1
  | .iface _ d => uptoBulk d + 1
  | .map entries => uptoBulkEntries entries + 1
  | .held _ => 1
def uptoBulkAll {H : Type} : List (DataW H) → Nat
  | [] => 0
  | d :: r => uptoBulk d + uptoBulkAll r
def uptoBulkEntries {H : Type} : List (Lit × DataW H) → Nat
  | [] => 0
  | x :: r => uptoBulkEntry x + uptoBulkEntries r
def uptoBulkEntry {H : Type} : Lit × DataW H → Nat
  | (.string bytes, d) => bytes.length + uptoBulk d + 1
  | (_, d) => uptoBulk d + 1
 end
def uptoSmall : (H : Type) → List (DataW H) → Bool := fun _ ds => decide (uptoBulkAll ds ≤ 1048576)
def OpenSpec.upto (s : _root_.Go.ChangeSpec) : _root_.Go.OpenSpec := { _root_.Go.OpenSpec.ofChange s with cond := some uptoSmall }

/-- 'signpostlaw18.EcmpWidths', WHERE WHAT IT READS IS OF BULK AT MOST 1048576: true; the input reads as it did. -/
def ecmpWidthsUptoRow : OpenClaim := { program := "ytdchhhedpipeiaa", sum := "4d2e2beadb8b489d116129a1111a571432e79dbdfc4bbc6eb0699a6d4dc9e458", func := "signpost/signpostlaw18.EcmpWidths", spec := "ecmpWidths", inPlace := ["math.Float64frombits", "math.Float64bits"], unfollowed := true, recurses := true, apart := false, narrowed := true }
def EcmpWidthsUptoSaid : Prop := ecmpWidthsUptoRow.holds Try.pinned (OpenSpec.upto ecmpWidthsSpec)

/-- 'signpostlaw18.EcmpAlone', WHERE WHAT IT READS IS OF BULK AT MOST 1048576: true; the input reads as it did. -/
def ecmpAloneUptoRow : OpenClaim := { program := "ytdchhhedpipeiaa", sum := "4d2e2beadb8b489d116129a1111a571432e79dbdfc4bbc6eb0699a6d4dc9e458", func := "signpost/signpostlaw18.EcmpAlone", spec := "ecmpAlone", inPlace := ["math.Float64frombits", "math.Float64bits"], unfollowed := true, recurses := true, apart := false, narrowed := true }
def EcmpAloneUptoSaid : Prop := ecmpAloneUptoRow.holds Try.pinned (OpenSpec.upto ecmpAloneSpec)

/-- 'signpostlaw18.EcmpOrder', WHERE WHAT IT READS IS OF BULK AT MOST 1048576: true; the input reads as it did. -/
def ecmpOrderUptoRow : OpenClaim := { program := "ytdchhhedpipeiaa", sum := "4d2e2beadb8b489d116129a1111a571432e79dbdfc4bbc6eb0699a6d4dc9e458", func := "signpost/signpostlaw18.EcmpOrder", spec := "ecmpOrder", inPlace := ["math.Float64frombits", "math.Float64bits"], unfollowed := true, recurses := true, apart := false, narrowed := true }
def EcmpOrderUptoSaid : Prop := ecmpOrderUptoRow.holds Try.pinned (OpenSpec.upto ecmpOrderSpec)

/-- 'signpostlaw18.EcmpRules', WHERE WHAT IT READS IS OF BULK AT MOST 1048576: true; the input reads as it did. -/
def ecmpRulesUptoRow : OpenClaim := { program := "ytdchhhedpipeiaa", sum := "4d2e2beadb8b489d116129a1111a571432e79dbdfc4bbc6eb0699a6d4dc9e458", func := "signpost/signpostlaw18.EcmpRules", spec := "ecmpRules", inPlace := ["math.Float64frombits", "math.Float64bits"], unfollowed := true, recurses := true, apart := false, narrowed := true }
def EcmpRulesUptoSaid : Prop := ecmpRulesUptoRow.holds Try.pinned (OpenSpec.upto ecmpRulesSpec)

/-- 'signpostlaw18.EcmpNumbers', WHERE WHAT IT READS IS OF BULK AT MOST 1048576: true; the input reads as it did. -/
def ecmpNumbersUptoRow : OpenClaim := { program := "ytdchhhedpipeiaa", sum := "4d2e2beadb8b489d116129a1111a571432e79dbdfc4bbc6eb0699a6d4dc9e458", func := "signpost/signpostlaw18.EcmpNumbers", spec := "ecmpNumbers", inPlace := ["math.Float64frombits", "math.Float64bits"], unfollowed := true, recurses := true, apart := false, narrowed := true }
def EcmpNumbersUptoSaid : Prop := ecmpNumbersUptoRow.holds Try.pinned (OpenSpec.upto ecmpNumbersSpec)

/-- 'signpostlaw18.EcmpTells', WHERE WHAT IT READS IS OF BULK AT MOST 1048576: true; the input reads as it did. -/
def ecmpTellsUptoRow : OpenClaim := { program := "ytdchhhedpipeiaa", sum := "4d2e2beadb8b489d116129a1111a571432e79dbdfc4bbc6eb0699a6d4dc9e458", func := "signpost/signpostlaw18.EcmpTells", spec := "ecmpTells", inPlace := ["math.Float64frombits", "math.Float64bits"], unfollowed := true, recurses := true, apart := false, narrowed := true }
def EcmpTellsUptoSaid : Prop := ecmpTellsUptoRow.holds Try.pinned (OpenSpec.upto ecmpTellsSpec)

end Rows
end Go.Proofs.Ytdchhhedpipeiaa
