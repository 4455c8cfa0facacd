/-
  DERIVED. GIVEN WITH THE SEED: THE CARDS: each row of YtkklemhhimcahaaGreatDoorRows.lean that lists a variable, with what it lists TIED to the program's text (the seventh form; the later family's looks); each row that meets fmt, with fmt's text TOLD by the authors' own Lean function (tested against real Go, not proved from fmt's source: count such statements apart). THE CARD IS WHAT COUNTS. Prove the row's statement (the work); the ties are given (YtkklemhhimcahaaGreatDoorTie.lean); close each card by the builder's one call (the guide's Derived/Test/ToyasCard.lean, 'card_holds'). Laid BY PROGRAM, IN A SANDBOX (cutbox-door.mjs). By AI agents, Wed Nov 11 2026. No macro, syntax, notation, axiom, sorry.
-/
import Derived.Test.YtkklemhhimcahaaGreatDoorRows
import GoSem.ClaimSeven
namespace Go.Proofs.YtkklemhhimcahaaGreatDoor
namespace Rows

/-- THE TIED CARD OF 'linguisterlaw6.RuleRound'. -/
def ruleRoundCard : Claim7 := { stood := { row := ruleRoundRow, standIns := [], harness := (true, "8f85bd98fcbc994b235e3c76e2e88eb1c90375cde53956d667681a1899be5836"), looks := true }, kinds := [], alts := [], laidByText := true, laidKinds := [.data, .data, .data, .data, .handle, .sentinel, .sentinel, .pinned], laidTests := true, laidLooks := .later }
def RuleRoundCardSaid : Prop := Claim7.holds Tryz.pinned (.plain (OpenSpec.ofChange ruleRoundSpec)) ruleRoundCard

/-- THE TIED CARD OF 'linguisterlaw6.OpsTen'. -/
def opsTenCard : Claim7 := { stood := { row := opsTenRow, standIns := [], harness := (true, "8f85bd98fcbc994b235e3c76e2e88eb1c90375cde53956d667681a1899be5836"), looks := true }, kinds := [], alts := [], laidByText := true, laidKinds := [.data, .data, .data, .data, .sentinel, .sentinel, .data, .pinned], laidTests := true, laidLooks := .later }
def OpsTenCardSaid : Prop := Claim7.holds Tryz.pinned (.plain (OpenSpec.ofChange opsTenSpec)) opsTenCard

/-- THE TIED CARD OF 'linguisterlaw6.MsgCases'. -/
def msgCasesCard : Claim7 := { stood := { row := msgCasesRow, standIns := [], harness := (true, "8f85bd98fcbc994b235e3c76e2e88eb1c90375cde53956d667681a1899be5836"), looks := true }, kinds := [], alts := [], laidByText := true, laidKinds := [.data, .data, .data, .data, .handle, .sentinel, .sentinel, .widerDeep, .pinned], laidTests := true, laidLooks := .later }
def MsgCasesCardSaid : Prop := Claim7.holds Tryz.pinned (.plain (OpenSpec.ofChange msgCasesSpec)) msgCasesCard

/-- THE SECOND FORM's CARD OF 'linguisterlaw6.RuleRound'. -/
def ruleRoundUptoCard : Claim7 := { stood := { row := ruleRoundUptoRow, standIns := [], harness := (true, "8f85bd98fcbc994b235e3c76e2e88eb1c90375cde53956d667681a1899be5836"), looks := true }, kinds := [], alts := [], laidByText := true, laidKinds := [.data, .data, .data, .data, .handle, .sentinel, .sentinel, .pinned], laidTests := true, laidLooks := .later }
def RuleRoundUptoCardSaid : Prop := Claim7.holds Tryz.pinned (.plain (OpenSpec.upto ruleRoundSpec)) ruleRoundUptoCard

/-- THE SECOND FORM's CARD OF 'linguisterlaw6.OpsTen'. -/
def opsTenUptoCard : Claim7 := { stood := { row := opsTenUptoRow, standIns := [], harness := (true, "8f85bd98fcbc994b235e3c76e2e88eb1c90375cde53956d667681a1899be5836"), looks := true }, kinds := [], alts := [], laidByText := true, laidKinds := [.data, .data, .data, .data, .sentinel, .sentinel, .data, .pinned], laidTests := true, laidLooks := .later }
def OpsTenUptoCardSaid : Prop := Claim7.holds Tryz.pinned (.plain (OpenSpec.upto opsTenSpec)) opsTenUptoCard

/-- THE SECOND FORM's CARD OF 'linguisterlaw6.MsgCases'. -/
def msgCasesUptoCard : Claim7 := { stood := { row := msgCasesUptoRow, standIns := [], harness := (true, "8f85bd98fcbc994b235e3c76e2e88eb1c90375cde53956d667681a1899be5836"), looks := true }, kinds := [], alts := [], laidByText := true, laidKinds := [.data, .data, .data, .data, .handle, .sentinel, .sentinel, .widerDeep, .pinned], laidTests := true, laidLooks := .later }
def MsgCasesUptoCardSaid : Prop := Claim7.holds Tryz.pinned (.plain (OpenSpec.upto msgCasesSpec)) msgCasesUptoCard
end Rows
end Go.Proofs.YtkklemhhimcahaaGreatDoor
