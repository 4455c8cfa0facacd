/-
  DERIVED. GIVEN WITH THE SEED: THE CARDS: each row of YthlcjlmaaaappaaDoorRows.lean that lists a variable, with what it lists TIED to the program's text (the seventh form; the later family's looks); each row that meets fmt, with fmt's text TOLD by the authors' own Lean function (tested against real Go, not proved from fmt's source: count such statements apart). THE CARD IS WHAT COUNTS. Prove the row's statement (the work); the ties are given (YthlcjlmaaaappaaDoorTie.lean); close each card by the builder's one call (the guide's Derived/Test/ToyasCard.lean, 'card_holds'). Laid BY PROGRAM, IN A SANDBOX (cutbox-door.mjs). By AI agents, Wed Nov 11 2026. No macro, syntax, notation, axiom, sorry.
-/
import Derived.Test.YthlcjlmaaaappaaDoorRows
import GoSem.ClaimSeven
namespace Go.Proofs.YthlcjlmaaaappaaDoor
namespace Rows

/-- THE TIED CARD OF 'linguisterlaw6.CodeLens'. -/
def codeLensCard : Claim7 := { stood := { row := codeLensRow, standIns := [], harness := (true, "c432a08c2d7bfb3fce5fc860953e930fe12f35addad19811ddb1527b6a3e92af"), looks := true }, kinds := [], alts := [], laidByText := true, laidKinds := [.data, .data, .data, .data, .sentinel, .sentinel, .widerDeep, .pinned], laidTests := true, laidLooks := .later }
def CodeLensCardSaid : Prop := Claim7.holds Tryd.pinned (.plain (OpenSpec.ofChange codeLensSpec)) codeLensCard

/-- THE TIED CARD OF 'linguisterlaw6.NamesWrap'. -/
def namesWrapCard : Claim7 := { stood := { row := namesWrapRow, standIns := [], harness := (true, "c432a08c2d7bfb3fce5fc860953e930fe12f35addad19811ddb1527b6a3e92af"), looks := true }, kinds := [], alts := [], laidByText := true, laidKinds := [.data, .data, .data, .data, .sentinel, .sentinel, .widerDeep, .pinned], laidTests := true, laidLooks := .later }
def NamesWrapCardSaid : Prop := Claim7.holds Tryd.pinned (.plain (OpenSpec.ofChange namesWrapSpec)) namesWrapCard

/-- THE SECOND FORM's CARD OF 'linguisterlaw6.CodeLens'. -/
def codeLensUptoCard : Claim7 := { stood := { row := codeLensUptoRow, standIns := [], harness := (true, "c432a08c2d7bfb3fce5fc860953e930fe12f35addad19811ddb1527b6a3e92af"), looks := true }, kinds := [], alts := [], laidByText := true, laidKinds := [.data, .data, .data, .data, .sentinel, .sentinel, .widerDeep, .pinned], laidTests := true, laidLooks := .later }
def CodeLensUptoCardSaid : Prop := Claim7.holds Tryd.pinned (.plain (OpenSpec.upto codeLensSpec)) codeLensUptoCard

/-- THE SECOND FORM's CARD OF 'linguisterlaw6.NamesWrap'. -/
def namesWrapUptoCard : Claim7 := { stood := { row := namesWrapUptoRow, standIns := [], harness := (true, "c432a08c2d7bfb3fce5fc860953e930fe12f35addad19811ddb1527b6a3e92af"), looks := true }, kinds := [], alts := [], laidByText := true, laidKinds := [.data, .data, .data, .data, .sentinel, .sentinel, .widerDeep, .pinned], laidTests := true, laidLooks := .later }
def NamesWrapUptoCardSaid : Prop := Claim7.holds Tryd.pinned (.plain (OpenSpec.upto namesWrapSpec)) namesWrapUptoCard
end Rows
end Go.Proofs.YthlcjlmaaaappaaDoor
