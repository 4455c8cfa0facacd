/-
  DERIVED. GIVEN WITH THE SEED: THE CARDS: each row of YthlcjlmaaaappaaGreatDoorRows.lean that lists a variable, with what it lists TIED to the program's text (the seventh form; the later family's looks); each row that meets fmt, with fmt's text TOLD by the authors' own Lean function (tested against real Go, not proved from fmt's source: count such statements apart). THE CARD IS WHAT COUNTS. Prove the row's statement (the work); the ties are given (YthlcjlmaaaappaaGreatDoorTie.lean); close each card by the builder's one call (the guide's Derived/Test/ToyasCard.lean, 'card_holds'). Laid BY PROGRAM, IN A SANDBOX (cutbox-door.mjs). By AI agents, Wed Nov 11 2026. No macro, syntax, notation, axiom, sorry.
-/
import Derived.Test.YthlcjlmaaaappaaGreatDoorRows
import GoSem.ClaimSeven
namespace Go.Proofs.YthlcjlmaaaappaaGreatDoor
namespace Rows

/-- THE TIED CARD OF 'linguisterlaw6.MsgCases'. -/
def msgCasesCard : Claim7 := { stood := { row := msgCasesRow, standIns := [], harness := (true, "c1dddf40d650a10cee9091277ab9b0a1014fcff2f060f4ccc91be0fe0e6e220f"), looks := true }, kinds := [], alts := [], laidByText := true, laidKinds := [.data, .data, .data, .data, .handle, .sentinel, .sentinel, .widerDeep, .pinned], laidTests := true, laidLooks := .later }
def MsgCasesCardSaid : Prop := Claim7.holds Tryz.pinned (.plain (OpenSpec.ofChange msgCasesSpec)) msgCasesCard

/-- THE TIED CARD OF 'linguisterlaw6.CoverAll'. -/
def coverAllCard : Claim7 := { stood := { row := coverAllRow, standIns := [], harness := (true, "c1dddf40d650a10cee9091277ab9b0a1014fcff2f060f4ccc91be0fe0e6e220f"), looks := true }, kinds := [], alts := [], laidByText := true, laidKinds := [.data, .data, .data, .data, .sentinel, .sentinel, .widerDeep, .pinned], laidTests := true, laidLooks := .later }
def CoverAllCardSaid : Prop := Claim7.holds Tryz.pinned (.plain (OpenSpec.ofChange coverAllSpec)) coverAllCard

/-- THE TIED CARD OF 'linguisterlaw6.EvalNames'. -/
def evalNamesCard : Claim7 := { stood := { row := evalNamesRow, standIns := [], harness := (true, "c1dddf40d650a10cee9091277ab9b0a1014fcff2f060f4ccc91be0fe0e6e220f"), looks := true }, kinds := [], alts := [], laidByText := true, laidKinds := [.data, .data, .data, .data, .sentinel, .sentinel, .widerDeep, .data, .data, .data, .pinned], laidTests := true, laidLooks := .later }
def EvalNamesCardSaid : Prop := Claim7.holds Tryz.pinned (.plain (OpenSpec.ofChange evalNamesSpec)) evalNamesCard

/-- THE TIED CARD OF 'linguisterlaw6.EvalWraps'. -/
def evalWrapsCard : Claim7 := { stood := { row := evalWrapsRow, standIns := [], harness := (true, "c1dddf40d650a10cee9091277ab9b0a1014fcff2f060f4ccc91be0fe0e6e220f"), looks := true }, kinds := [], alts := [], laidByText := true, laidKinds := [.data, .data, .data, .data, .handle, .sentinel, .sentinel, .widerDeep, .data, .data, .data, .pinned], laidTests := true, laidLooks := .later }
def EvalWrapsCardSaid : Prop := Claim7.holds Tryz.pinned (.plain (OpenSpec.ofChange evalWrapsSpec)) evalWrapsCard

/-- THE SECOND FORM's CARD OF 'linguisterlaw6.MsgCases'. -/
def msgCasesUptoCard : Claim7 := { stood := { row := msgCasesUptoRow, standIns := [], harness := (true, "c1dddf40d650a10cee9091277ab9b0a1014fcff2f060f4ccc91be0fe0e6e220f"), looks := true }, kinds := [], alts := [], laidByText := true, laidKinds := [.data, .data, .data, .data, .handle, .sentinel, .sentinel, .widerDeep, .pinned], laidTests := true, laidLooks := .later }
def MsgCasesUptoCardSaid : Prop := Claim7.holds Tryz.pinned (.plain (OpenSpec.upto msgCasesSpec)) msgCasesUptoCard

/-- THE SECOND FORM's CARD OF 'linguisterlaw6.CoverAll'. -/
def coverAllUptoCard : Claim7 := { stood := { row := coverAllUptoRow, standIns := [], harness := (true, "c1dddf40d650a10cee9091277ab9b0a1014fcff2f060f4ccc91be0fe0e6e220f"), looks := true }, kinds := [], alts := [], laidByText := true, laidKinds := [.data, .data, .data, .data, .sentinel, .sentinel, .widerDeep, .pinned], laidTests := true, laidLooks := .later }
def CoverAllUptoCardSaid : Prop := Claim7.holds Tryz.pinned (.plain (OpenSpec.upto coverAllSpec)) coverAllUptoCard

/-- THE SECOND FORM's CARD OF 'linguisterlaw6.EvalNames'. -/
def evalNamesUptoCard : Claim7 := { stood := { row := evalNamesUptoRow, standIns := [], harness := (true, "c1dddf40d650a10cee9091277ab9b0a1014fcff2f060f4ccc91be0fe0e6e220f"), looks := true }, kinds := [], alts := [], laidByText := true, laidKinds := [.data, .data, .data, .data, .sentinel, .sentinel, .widerDeep, .data, .data, .data, .pinned], laidTests := true, laidLooks := .later }
def EvalNamesUptoCardSaid : Prop := Claim7.holds Tryz.pinned (.plain (OpenSpec.upto evalNamesSpec)) evalNamesUptoCard

/-- THE SECOND FORM's CARD OF 'linguisterlaw6.EvalWraps'. -/
def evalWrapsUptoCard : Claim7 := { stood := { row := evalWrapsUptoRow, standIns := [], harness := (true, "c1dddf40d650a10cee9091277ab9b0a1014fcff2f060f4ccc91be0fe0e6e220f"), looks := true }, kinds := [], alts := [], laidByText := true, laidKinds := [.data, .data, .data, .data, .handle, .sentinel, .sentinel, .widerDeep, .data, .data, .data, .pinned], laidTests := true, laidLooks := .later }
def EvalWrapsUptoCardSaid : Prop := Claim7.holds Tryz.pinned (.plain (OpenSpec.upto evalWrapsSpec)) evalWrapsUptoCard
end Rows
end Go.Proofs.YthlcjlmaaaappaaGreatDoor
