/-
  DERIVED. GIVEN WITH THE SEED: THE CARDS: each row of YtnhlnhmjnnopaaaDoorRows.lean that lists a variable, with what it lists TIED to the program's text (the seventh form; the later family's looks); each row that meets fmt, with fmt's text TOLD by the authors' own Lean function (tested against real Go, not proved from fmt's source: count such statements apart). THE CARD IS WHAT COUNTS. Prove the row's statement (the work); the ties are given (YtnhlnhmjnnopaaaDoorTie.lean); close each card by the builder's one call (the guide's Derived/Test/ToyasCard.lean, 'card_holds'). Laid BY PROGRAM, IN A SANDBOX (cutbox-door.mjs). By AI agents, Wed Nov 11 2026. No macro, syntax, notation, axiom, sorry.
-/
import Derived.Test.YtnhlnhmjnnopaaaDoorRows
import GoSem.ClaimSeven
namespace Go.Proofs.YtnhlnhmjnnopaaaDoor
namespace Rows

/-- THE TIED CARD OF 'linguisterlaw6.FindEnglish'. -/
def findEnglishCard : Claim7 := { stood := { row := findEnglishRow, standIns := [], harness := (true, "e1f647007e9334ca64477279377d89c5ba1a43391fb89cf64606d1cc33dcbb53"), looks := false }, kinds := [], alts := [], laidByText := true, laidKinds := [.data, .pinned], laidTests := true, laidLooks := .later }
def FindEnglishCardSaid : Prop := Claim7.holds Tryd.pinned (.plain (OpenSpec.ofChange findEnglishSpec)) findEnglishCard

/-- THE TIED CARD OF 'linguisterlaw6.PackLong'. -/
def packLongCard : Claim7 := { stood := { row := packLongRow, standIns := [], harness := (true, "e1f647007e9334ca64477279377d89c5ba1a43391fb89cf64606d1cc33dcbb53"), looks := false }, kinds := [], alts := [], laidByText := true, laidKinds := [.data, .pinned], laidTests := true, laidLooks := .later }
def PackLongCardSaid : Prop := Claim7.holds Tryd.pinned (.plain (OpenSpec.ofChange packLongSpec)) packLongCard

/-- THE SECOND FORM's CARD OF 'linguisterlaw6.FindEnglish'. -/
def findEnglishUptoCard : Claim7 := { stood := { row := findEnglishUptoRow, standIns := [], harness := (true, "e1f647007e9334ca64477279377d89c5ba1a43391fb89cf64606d1cc33dcbb53"), looks := false }, kinds := [], alts := [], laidByText := true, laidKinds := [.data, .pinned], laidTests := true, laidLooks := .later }
def FindEnglishUptoCardSaid : Prop := Claim7.holds Tryd.pinned (.plain (OpenSpec.upto findEnglishSpec)) findEnglishUptoCard

/-- THE SECOND FORM's CARD OF 'linguisterlaw6.PackLong'. -/
def packLongUptoCard : Claim7 := { stood := { row := packLongUptoRow, standIns := [], harness := (true, "e1f647007e9334ca64477279377d89c5ba1a43391fb89cf64606d1cc33dcbb53"), looks := false }, kinds := [], alts := [], laidByText := true, laidKinds := [.data, .pinned], laidTests := true, laidLooks := .later }
def PackLongUptoCardSaid : Prop := Claim7.holds Tryd.pinned (.plain (OpenSpec.upto packLongSpec)) packLongUptoCard
end Rows
end Go.Proofs.YtnhlnhmjnnopaaaDoor
