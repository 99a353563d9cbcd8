/-
  DERIVED. GIVEN WITH THE SEED: THE CARDS: each row of YtokfgajfkopelaaDoorRows.lean that lists a variable, with what it lists TIED to the program's text (the seventh form; the later family's looks); each row that meets fmt, with fmt's text TOLD by the authors' own Lean function (tested against real Go, not proved from fmt's source: count such statements apart). THE CARD IS WHAT COUNTS. Prove the row's statement (the work); the ties are given (YtokfgajfkopelaaDoorTie.lean); close each card by the builder's one call (the guide's Derived/Test/ToyasCard.lean, 'card_holds'). Laid BY PROGRAM, IN A SANDBOX (cutbox-door.mjs). By AI agents, Wed Nov 11 2026. No macro, syntax, notation, axiom, sorry.
-/
import Derived.Test.YtokfgajfkopelaaDoorRows
import GoSem.ClaimSeven
namespace Go.Proofs.YtokfgajfkopelaaDoor
namespace Rows

/-- THE TIED CARD OF 'signpostlaw1.AddrBack'. -/
def addrBackCard : Claim7 := { stood := { row := addrBackRow, standIns := [], harness := (true, "5fc2685c4f2708b8cd3078120cecbe8343e70f2e1d150339d3917d1e9fcf698f"), looks := false }, kinds := [], alts := [], laidByText := true, laidKinds := [.data, .data, .data, .data, .pinned], laidTests := true, laidLooks := .later }
def AddrBackCardSaid : Prop := Claim7.holds Tryd.pinned (.plain (OpenSpec.ofChange addrBackSpec)) addrBackCard

/-- THE TIED CARD OF 'signpostlaw1.AddrParts'. -/
def addrPartsCard : Claim7 := { stood := { row := addrPartsRow, standIns := [], harness := (true, "5fc2685c4f2708b8cd3078120cecbe8343e70f2e1d150339d3917d1e9fcf698f"), looks := false }, kinds := [], alts := [], laidByText := true, laidKinds := [.data, .data, .data, .data, .pinned], laidTests := true, laidLooks := .later }
def AddrPartsCardSaid : Prop := Claim7.holds Tryd.pinned (.plain (OpenSpec.ofChange addrPartsSpec)) addrPartsCard

/-- THE TIED CARD OF 'signpostlaw1.AddrOrder'. -/
def addrOrderCard : Claim7 := { stood := { row := addrOrderRow, standIns := [], harness := (true, "5fc2685c4f2708b8cd3078120cecbe8343e70f2e1d150339d3917d1e9fcf698f"), looks := false }, kinds := [], alts := [], laidByText := true, laidKinds := [.data, .data, .data, .data, .pinned], laidTests := true, laidLooks := .later }
def AddrOrderCardSaid : Prop := Claim7.holds Tryd.pinned (.plain (OpenSpec.ofChange addrOrderSpec)) addrOrderCard

/-- THE TIED CARD OF 'signpostlaw1.AddrMeets'. -/
def addrMeetsCard : Claim7 := { stood := { row := addrMeetsRow, standIns := [], harness := (true, "5fc2685c4f2708b8cd3078120cecbe8343e70f2e1d150339d3917d1e9fcf698f"), looks := false }, kinds := [], alts := [], laidByText := true, laidKinds := [.data, .data, .data, .data, .pinned], laidTests := true, laidLooks := .later }
def AddrMeetsCardSaid : Prop := Claim7.holds Tryd.pinned (.plain (OpenSpec.ofChange addrMeetsSpec)) addrMeetsCard

/-- THE TIED CARD OF 'signpostlaw1.AddrWays'. -/
def addrWaysCard : Claim7 := { stood := { row := addrWaysRow, standIns := [], harness := (true, "5fc2685c4f2708b8cd3078120cecbe8343e70f2e1d150339d3917d1e9fcf698f"), looks := false }, kinds := [], alts := [], laidByText := true, laidKinds := [.data, .data, .data, .data, .pinned], laidTests := true, laidLooks := .later }
def AddrWaysCardSaid : Prop := Claim7.holds Tryd.pinned (.plain (OpenSpec.ofChange addrWaysSpec)) addrWaysCard

/-- THE TIED CARD OF 'signpostlaw1.AddrNumbers'. -/
def addrNumbersCard : Claim7 := { stood := { row := addrNumbersRow, standIns := [], harness := (true, "5fc2685c4f2708b8cd3078120cecbe8343e70f2e1d150339d3917d1e9fcf698f"), looks := false }, kinds := [], alts := [], laidByText := true, laidKinds := [.data, .data, .data, .data, .pinned], laidTests := true, laidLooks := .later }
def AddrNumbersCardSaid : Prop := Claim7.holds Tryd.pinned (.plain (OpenSpec.ofChange addrNumbersSpec)) addrNumbersCard

/-- THE TIED CARD OF 'signpostlaw1.AddrTells'. -/
def addrTellsCard : Claim7 := { stood := { row := addrTellsRow, standIns := [], harness := (true, "5fc2685c4f2708b8cd3078120cecbe8343e70f2e1d150339d3917d1e9fcf698f"), looks := false }, kinds := [], alts := [], laidByText := true, laidKinds := [.data, .data, .data, .data, .pinned], laidTests := true, laidLooks := .later }
def AddrTellsCardSaid : Prop := Claim7.holds Tryd.pinned (.plain (OpenSpec.ofChange addrTellsSpec)) addrTellsCard

/-- THE TIED CARD OF 'signpostlaw1.AddrRules'. -/
def addrRulesCard : Claim7 := { stood := { row := addrRulesRow, standIns := [], harness := (true, "5fc2685c4f2708b8cd3078120cecbe8343e70f2e1d150339d3917d1e9fcf698f"), looks := false }, kinds := [], alts := [], laidByText := true, laidKinds := [.data, .data, .data, .data, .pinned], laidTests := true, laidLooks := .later }
def AddrRulesCardSaid : Prop := Claim7.holds Tryd.pinned (.plain (OpenSpec.ofChange addrRulesSpec)) addrRulesCard

/-- THE SECOND FORM's CARD OF 'signpostlaw1.AddrBack'. -/
def addrBackUptoCard : Claim7 := { stood := { row := addrBackUptoRow, standIns := [], harness := (true, "5fc2685c4f2708b8cd3078120cecbe8343e70f2e1d150339d3917d1e9fcf698f"), looks := false }, kinds := [], alts := [], laidByText := true, laidKinds := [.data, .data, .data, .data, .pinned], laidTests := true, laidLooks := .later }
def AddrBackUptoCardSaid : Prop := Claim7.holds Tryd.pinned (.plain (OpenSpec.upto addrBackSpec)) addrBackUptoCard

/-- THE SECOND FORM's CARD OF 'signpostlaw1.AddrParts'. -/
def addrPartsUptoCard : Claim7 := { stood := { row := addrPartsUptoRow, standIns := [], harness := (true, "5fc2685c4f2708b8cd3078120cecbe8343e70f2e1d150339d3917d1e9fcf698f"), looks := false }, kinds := [], alts := [], laidByText := true, laidKinds := [.data, .data, .data, .data, .pinned], laidTests := true, laidLooks := .later }
def AddrPartsUptoCardSaid : Prop := Claim7.holds Tryd.pinned (.plain (OpenSpec.upto addrPartsSpec)) addrPartsUptoCard

/-- THE SECOND FORM's CARD OF 'signpostlaw1.AddrOrder'. -/
def addrOrderUptoCard : Claim7 := { stood := { row := addrOrderUptoRow, standIns := [], harness := (true, "5fc2685c4f2708b8cd3078120cecbe8343e70f2e1d150339d3917d1e9fcf698f"), looks := false }, kinds := [], alts := [], laidByText := true, laidKinds := [.data, .data, .data, .data, .pinned], laidTests := true, laidLooks := .later }
def AddrOrderUptoCardSaid : Prop := Claim7.holds Tryd.pinned (.plain (OpenSpec.upto addrOrderSpec)) addrOrderUptoCard

/-- THE SECOND FORM's CARD OF 'signpostlaw1.AddrMeets'. -/
def addrMeetsUptoCard : Claim7 := { stood := { row := addrMeetsUptoRow, standIns := [], harness := (true, "5fc2685c4f2708b8cd3078120cecbe8343e70f2e1d150339d3917d1e9fcf698f"), looks := false }, kinds := [], alts := [], laidByText := true, laidKinds := [.data, .data, .data, .data, .pinned], laidTests := true, laidLooks := .later }
def AddrMeetsUptoCardSaid : Prop := Claim7.holds Tryd.pinned (.plain (OpenSpec.upto addrMeetsSpec)) addrMeetsUptoCard

/-- THE SECOND FORM's CARD OF 'signpostlaw1.AddrWays'. -/
def addrWaysUptoCard : Claim7 := { stood := { row := addrWaysUptoRow, standIns := [], harness := (true, "5fc2685c4f2708b8cd3078120cecbe8343e70f2e1d150339d3917d1e9fcf698f"), looks := false }, kinds := [], alts := [], laidByText := true, laidKinds := [.data, .data, .data, .data, .pinned], laidTests := true, laidLooks := .later }
def AddrWaysUptoCardSaid : Prop := Claim7.holds Tryd.pinned (.plain (OpenSpec.upto addrWaysSpec)) addrWaysUptoCard

/-- THE SECOND FORM's CARD OF 'signpostlaw1.AddrNumbers'. -/
def addrNumbersUptoCard : Claim7 := { stood := { row := addrNumbersUptoRow, standIns := [], harness := (true, "5fc2685c4f2708b8cd3078120cecbe8343e70f2e1d150339d3917d1e9fcf698f"), looks := false }, kinds := [], alts := [], laidByText := true, laidKinds := [.data, .data, .data, .data, .pinned], laidTests := true, laidLooks := .later }
def AddrNumbersUptoCardSaid : Prop := Claim7.holds Tryd.pinned (.plain (OpenSpec.upto addrNumbersSpec)) addrNumbersUptoCard

/-- THE SECOND FORM's CARD OF 'signpostlaw1.AddrTells'. -/
def addrTellsUptoCard : Claim7 := { stood := { row := addrTellsUptoRow, standIns := [], harness := (true, "5fc2685c4f2708b8cd3078120cecbe8343e70f2e1d150339d3917d1e9fcf698f"), looks := false }, kinds := [], alts := [], laidByText := true, laidKinds := [.data, .data, .data, .data, .pinned], laidTests := true, laidLooks := .later }
def AddrTellsUptoCardSaid : Prop := Claim7.holds Tryd.pinned (.plain (OpenSpec.upto addrTellsSpec)) addrTellsUptoCard

/-- THE SECOND FORM's CARD OF 'signpostlaw1.AddrRules'. -/
def addrRulesUptoCard : Claim7 := { stood := { row := addrRulesUptoRow, standIns := [], harness := (true, "5fc2685c4f2708b8cd3078120cecbe8343e70f2e1d150339d3917d1e9fcf698f"), looks := false }, kinds := [], alts := [], laidByText := true, laidKinds := [.data, .data, .data, .data, .pinned], laidTests := true, laidLooks := .later }
def AddrRulesUptoCardSaid : Prop := Claim7.holds Tryd.pinned (.plain (OpenSpec.upto addrRulesSpec)) addrRulesUptoCard
end Rows
end Go.Proofs.YtokfgajfkopelaaDoor
