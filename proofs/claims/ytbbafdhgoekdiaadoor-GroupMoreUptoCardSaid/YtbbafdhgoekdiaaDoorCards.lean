/-
  DERIVED. GIVEN WITH THE SEED: THE CARDS: each row of YtbbafdhgoekdiaaDoorRows.lean that lists a variable, with what it lists TIED to the program's text (the seventh form; the later family's looks); each row that meets fmt, with fmt's text TOLD by the authors' own Lean function (tested against real Go, not proved from fmt's source: count such statements apart). THE CARD IS WHAT COUNTS. Prove the row's statement (the work); the ties are given (YtbbafdhgoekdiaaDoorTie.lean); close each card by the builder's one call (the guide's Derived/Test/ToyasCard.lean, 'card_holds'). Laid BY PROGRAM, IN A SANDBOX (cutbox-door.mjs). By AI agents, Wed Nov 11 2026. No macro, syntax, notation, axiom, sorry.
-/
import Derived.Test.YtbbafdhgoekdiaaDoorRows
import GoSem.ClaimSeven
namespace Go.Proofs.YtbbafdhgoekdiaaDoor
namespace Rows

/-- THE TIED CARD OF 'linguisterlaw6.DateMonths'. -/
def dateMonthsCard : Claim7 := { stood := { row := dateMonthsRow, standIns := [], harness := (true, "8c4b3365080f81da1ee728330dd50a4aec980b503406a1226b75c851db074b10"), looks := true }, kinds := [], alts := [], laidByText := true, laidKinds := [.data], laidTests := true, laidLooks := .later }
def DateMonthsCardSaid : Prop := Claim7.holds Tryd.pinned (.plain (OpenSpec.ofChange dateMonthsSpec)) dateMonthsCard

/-- THE TIED CARD OF 'linguisterlaw6.WeekLong'. -/
def weekLongCard : Claim7 := { stood := { row := weekLongRow, standIns := [], harness := (true, "8c4b3365080f81da1ee728330dd50a4aec980b503406a1226b75c851db074b10"), looks := true }, kinds := [], alts := [], laidByText := true, laidKinds := [.data], laidTests := true, laidLooks := .later }
def WeekLongCardSaid : Prop := Claim7.holds Tryd.pinned (.plain (OpenSpec.ofChange weekLongSpec)) weekLongCard

/-- THE TIED CARD OF 'linguisterlaw6.DecThree'. -/
def decThreeCard : Claim7 := { stood := { row := decThreeRow, standIns := [], harness := (true, "8c4b3365080f81da1ee728330dd50a4aec980b503406a1226b75c851db074b10"), looks := true }, kinds := [], alts := [], laidByText := true, laidKinds := [.handle], laidTests := true, laidLooks := .later }
def DecThreeCardSaid : Prop := Claim7.holds Tryd.pinned (.plain (OpenSpec.ofChange decThreeSpec)) decThreeCard

/-- THE TIED CARD OF 'linguisterlaw6.ShortRises'. -/
def shortRisesCard : Claim7 := { stood := { row := shortRisesRow, standIns := [], harness := (true, "8c4b3365080f81da1ee728330dd50a4aec980b503406a1226b75c851db074b10"), looks := true }, kinds := [], alts := [], laidByText := true, laidKinds := [.data, .data, .data], laidTests := true, laidLooks := .later }
def ShortRisesCardSaid : Prop := Claim7.holds Tryd.pinned (.plain (OpenSpec.ofChange shortRisesSpec)) shortRisesCard

/-- THE TIED CARD OF 'linguisterlaw6.RelDays'. -/
def relDaysCard : Claim7 := { stood := { row := relDaysRow, standIns := [], harness := (true, "8c4b3365080f81da1ee728330dd50a4aec980b503406a1226b75c851db074b10"), looks := true }, kinds := [], alts := [], laidByText := true, laidKinds := [.data, .data, .data, .data], laidTests := true, laidLooks := .later }
def RelDaysCardSaid : Prop := Claim7.holds Tryd.pinned (.plain (OpenSpec.ofChange relDaysSpec)) relDaysCard

/-- THE TIED CARD OF 'linguisterlaw6.GroupMore'. -/
def groupMoreCard : Claim7 := { stood := { row := groupMoreRow, standIns := [], harness := (true, "8c4b3365080f81da1ee728330dd50a4aec980b503406a1226b75c851db074b10"), looks := true }, kinds := [], alts := [], laidByText := true, laidKinds := [.data, .pinned], laidTests := true, laidLooks := .later }
def GroupMoreCardSaid : Prop := Claim7.holds Tryd.pinned (.plain (OpenSpec.ofChange groupMoreSpec)) groupMoreCard

/-- THE TIED CARD OF 'linguisterlaw6.WeekOrder'. -/
def weekOrderCard : Claim7 := { stood := { row := weekOrderRow, standIns := [], harness := (true, "8c4b3365080f81da1ee728330dd50a4aec980b503406a1226b75c851db074b10"), looks := true }, kinds := [], alts := [], laidByText := true, laidKinds := [.data, .data, .data, .data], laidTests := true, laidLooks := .later }
def WeekOrderCardSaid : Prop := Claim7.holds Tryd.pinned (.plain (OpenSpec.ofChange weekOrderSpec)) weekOrderCard

/-- THE SECOND FORM's CARD OF 'linguisterlaw6.DateMonths'. -/
def dateMonthsUptoCard : Claim7 := { stood := { row := dateMonthsUptoRow, standIns := [], harness := (true, "8c4b3365080f81da1ee728330dd50a4aec980b503406a1226b75c851db074b10"), looks := true }, kinds := [], alts := [], laidByText := true, laidKinds := [.data], laidTests := true, laidLooks := .later }
def DateMonthsUptoCardSaid : Prop := Claim7.holds Tryd.pinned (.plain (OpenSpec.upto dateMonthsSpec)) dateMonthsUptoCard

/-- THE SECOND FORM's CARD OF 'linguisterlaw6.WeekLong'. -/
def weekLongUptoCard : Claim7 := { stood := { row := weekLongUptoRow, standIns := [], harness := (true, "8c4b3365080f81da1ee728330dd50a4aec980b503406a1226b75c851db074b10"), looks := true }, kinds := [], alts := [], laidByText := true, laidKinds := [.data], laidTests := true, laidLooks := .later }
def WeekLongUptoCardSaid : Prop := Claim7.holds Tryd.pinned (.plain (OpenSpec.upto weekLongSpec)) weekLongUptoCard

/-- THE SECOND FORM's CARD OF 'linguisterlaw6.DecThree'. -/
def decThreeUptoCard : Claim7 := { stood := { row := decThreeUptoRow, standIns := [], harness := (true, "8c4b3365080f81da1ee728330dd50a4aec980b503406a1226b75c851db074b10"), looks := true }, kinds := [], alts := [], laidByText := true, laidKinds := [.handle], laidTests := true, laidLooks := .later }
def DecThreeUptoCardSaid : Prop := Claim7.holds Tryd.pinned (.plain (OpenSpec.upto decThreeSpec)) decThreeUptoCard

/-- THE SECOND FORM's CARD OF 'linguisterlaw6.ShortRises'. -/
def shortRisesUptoCard : Claim7 := { stood := { row := shortRisesUptoRow, standIns := [], harness := (true, "8c4b3365080f81da1ee728330dd50a4aec980b503406a1226b75c851db074b10"), looks := true }, kinds := [], alts := [], laidByText := true, laidKinds := [.data, .data, .data], laidTests := true, laidLooks := .later }
def ShortRisesUptoCardSaid : Prop := Claim7.holds Tryd.pinned (.plain (OpenSpec.upto shortRisesSpec)) shortRisesUptoCard

/-- THE SECOND FORM's CARD OF 'linguisterlaw6.RelDays'. -/
def relDaysUptoCard : Claim7 := { stood := { row := relDaysUptoRow, standIns := [], harness := (true, "8c4b3365080f81da1ee728330dd50a4aec980b503406a1226b75c851db074b10"), looks := true }, kinds := [], alts := [], laidByText := true, laidKinds := [.data, .data, .data, .data], laidTests := true, laidLooks := .later }
def RelDaysUptoCardSaid : Prop := Claim7.holds Tryd.pinned (.plain (OpenSpec.upto relDaysSpec)) relDaysUptoCard

/-- THE SECOND FORM's CARD OF 'linguisterlaw6.GroupMore'. -/
def groupMoreUptoCard : Claim7 := { stood := { row := groupMoreUptoRow, standIns := [], harness := (true, "8c4b3365080f81da1ee728330dd50a4aec980b503406a1226b75c851db074b10"), looks := true }, kinds := [], alts := [], laidByText := true, laidKinds := [.data, .pinned], laidTests := true, laidLooks := .later }
def GroupMoreUptoCardSaid : Prop := Claim7.holds Tryd.pinned (.plain (OpenSpec.upto groupMoreSpec)) groupMoreUptoCard

/-- THE SECOND FORM's CARD OF 'linguisterlaw6.WeekOrder'. -/
def weekOrderUptoCard : Claim7 := { stood := { row := weekOrderUptoRow, standIns := [], harness := (true, "8c4b3365080f81da1ee728330dd50a4aec980b503406a1226b75c851db074b10"), looks := true }, kinds := [], alts := [], laidByText := true, laidKinds := [.data, .data, .data, .data], laidTests := true, laidLooks := .later }
def WeekOrderUptoCardSaid : Prop := Claim7.holds Tryd.pinned (.plain (OpenSpec.upto weekOrderSpec)) weekOrderUptoCard
end Rows
end Go.Proofs.YtbbafdhgoekdiaaDoor
