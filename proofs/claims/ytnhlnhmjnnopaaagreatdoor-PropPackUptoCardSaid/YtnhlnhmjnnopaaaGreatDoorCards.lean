/-
  DERIVED. GIVEN WITH THE SEED: THE CARDS: each row of YtnhlnhmjnnopaaaGreatDoorRows.lean that lists a variable, with what it lists TIED to the program's text (the seventh form; the later family's looks); each row that meets fmt, with fmt's text TOLD by the authors' own Lean function (tested against real Go, not proved from fmt's source: count such statements apart). THE CARD IS WHAT COUNTS. Prove the row's statement (the work); the ties are given (YtnhlnhmjnnopaaaGreatDoorTie.lean); close each card by the builder's one call (the guide's Derived/Test/ToyasCard.lean, 'card_holds'). Laid BY PROGRAM, IN A SANDBOX (cutbox-door.mjs). By AI agents, Wed Nov 11 2026. No macro, syntax, notation, axiom, sorry.
-/
import Derived.Test.YtnhlnhmjnnopaaaGreatDoorRows
import GoSem.ClaimSeven
namespace Go.Proofs.YtnhlnhmjnnopaaaGreatDoor
namespace Rows

/-- THE TIED CARD OF 'linguisterlaw6.DiffThree'. -/
def diffThreeCard : Claim7 := { stood := { row := diffThreeRow, standIns := [], harness := (true, "926f3a2f191f4c359d5b30a68c7616d20151a52357fd34ca68c215e56f38031f"), looks := true }, kinds := [], alts := [], laidByText := true, laidKinds := [.data, .pinned], laidTests := true, laidLooks := .later }
def DiffThreeCardSaid : Prop := Claim7.holds Tryz.pinned (.plain (OpenSpec.ofChange diffThreeSpec)) diffThreeCard

/-- THE TIED CARD OF 'linguisterlaw6.PropPack'. -/
def propPackCard : Claim7 := { stood := { row := propPackRow, standIns := [], harness := (true, "926f3a2f191f4c359d5b30a68c7616d20151a52357fd34ca68c215e56f38031f"), looks := true }, kinds := [], alts := [], laidByText := true, laidKinds := [.data, .pinned], laidTests := true, laidLooks := .later }
def PropPackCardSaid : Prop := Claim7.holds Tryz.pinned (.plain (OpenSpec.ofChange propPackSpec)) propPackCard

/-- THE SECOND FORM's CARD OF 'linguisterlaw6.DiffThree'. -/
def diffThreeUptoCard : Claim7 := { stood := { row := diffThreeUptoRow, standIns := [], harness := (true, "926f3a2f191f4c359d5b30a68c7616d20151a52357fd34ca68c215e56f38031f"), looks := true }, kinds := [], alts := [], laidByText := true, laidKinds := [.data, .pinned], laidTests := true, laidLooks := .later }
def DiffThreeUptoCardSaid : Prop := Claim7.holds Tryz.pinned (.plain (OpenSpec.upto diffThreeSpec)) diffThreeUptoCard

/-- THE SECOND FORM's CARD OF 'linguisterlaw6.PropPack'. -/
def propPackUptoCard : Claim7 := { stood := { row := propPackUptoRow, standIns := [], harness := (true, "926f3a2f191f4c359d5b30a68c7616d20151a52357fd34ca68c215e56f38031f"), looks := true }, kinds := [], alts := [], laidByText := true, laidKinds := [.data, .pinned], laidTests := true, laidLooks := .later }
def PropPackUptoCardSaid : Prop := Claim7.holds Tryz.pinned (.plain (OpenSpec.upto propPackSpec)) propPackUptoCard
end Rows
end Go.Proofs.YtnhlnhmjnnopaaaGreatDoor
