/-
  DERIVED. GIVEN WITH THE SEED: THE CARDS: each row of YtdpdnanjanceeaaDoorRows.lean that lists a variable, with what it lists TIED to the program's text (the seventh form; the later family's looks); each row that meets fmt, with fmt's text TOLD by the authors' own Lean function (tested against real Go, not proved from fmt's source: count such statements apart). THE CARD IS WHAT COUNTS. Prove the row's statement (the work); the ties are given (YtdpdnanjanceeaaDoorTie.lean); close each card by the builder's one call (the guide's Derived/Test/ToyasCard.lean, 'card_holds'). Laid BY PROGRAM, IN A SANDBOX (cutbox-door.mjs). By AI agents, Wed Nov 11 2026. No macro, syntax, notation, axiom, sorry.
-/
import Derived.Test.YtdpdnanjanceeaaDoorRows
import GoSem.ClaimSeven
namespace Go.Proofs.YtdpdnanjanceeaaDoor
namespace Rows

/-- THE TIED CARD OF 'linguisterlaw6.TagShort'. -/
def tagShortCard : Claim7 := { stood := { row := tagShortRow, standIns := [], harness := (true, "d7591571f6e86439f35f253dff96e75d8d8ba73e1dac1f0aba260f919b69e8cf"), looks := false }, kinds := [], alts := [], laidByText := true, laidKinds := [.data, .pinned], laidTests := true, laidLooks := .later }
def TagShortCardSaid : Prop := Claim7.holds Tryd.pinned (.plain (OpenSpec.ofChange tagShortSpec)) tagShortCard

/-- THE TIED CARD OF 'linguisterlaw6.ChainEnds'. -/
def chainEndsCard : Claim7 := { stood := { row := chainEndsRow, standIns := [], harness := (true, "d7591571f6e86439f35f253dff96e75d8d8ba73e1dac1f0aba260f919b69e8cf"), looks := false }, kinds := [], alts := [], laidByText := true, laidKinds := [.data, .pinned], laidTests := true, laidLooks := .later }
def ChainEndsCardSaid : Prop := Claim7.holds Tryd.pinned (.plain (OpenSpec.ofChange chainEndsSpec)) chainEndsCard

/-- THE TIED CARD OF 'linguisterlaw6.PickSelf'. -/
def pickSelfCard : Claim7 := { stood := { row := pickSelfRow, standIns := [], harness := (true, "d7591571f6e86439f35f253dff96e75d8d8ba73e1dac1f0aba260f919b69e8cf"), looks := false }, kinds := [], alts := [], laidByText := true, laidKinds := [.data, .pinned], laidTests := true, laidLooks := .later }
def PickSelfCardSaid : Prop := Claim7.holds Tryd.pinned (.plain (OpenSpec.ofChange pickSelfSpec)) pickSelfCard

/-- THE TIED CARD OF 'linguisterlaw6.FindEnglish'. -/
def findEnglishCard : Claim7 := { stood := { row := findEnglishRow, standIns := [], harness := (true, "d7591571f6e86439f35f253dff96e75d8d8ba73e1dac1f0aba260f919b69e8cf"), looks := false }, kinds := [], alts := [], laidByText := true, laidKinds := [.data, .pinned], laidTests := true, laidLooks := .later }
def FindEnglishCardSaid : Prop := Claim7.holds Tryd.pinned (.plain (OpenSpec.ofChange findEnglishSpec)) findEnglishCard

/-- THE TIED CARD OF 'linguisterlaw6.NoutWhole'. -/
def noutWholeCard : Claim7 := { stood := { row := noutWholeRow, standIns := [], harness := (true, "d7591571f6e86439f35f253dff96e75d8d8ba73e1dac1f0aba260f919b69e8cf"), looks := false }, kinds := [], alts := [], laidByText := true, laidKinds := [.data, .data, .data, .data, .pinned], laidTests := true, laidLooks := .later }
def NoutWholeCardSaid : Prop := Claim7.holds Tryd.pinned (.plain (OpenSpec.ofChange noutWholeSpec)) noutWholeCard

/-- THE TIED CARD OF 'linguisterlaw6.NpatPlain'. -/
def npatPlainCard : Claim7 := { stood := { row := npatPlainRow, standIns := [], harness := (true, "d7591571f6e86439f35f253dff96e75d8d8ba73e1dac1f0aba260f919b69e8cf"), looks := false }, kinds := [], alts := [], laidByText := true, laidKinds := [.data, .data, .data, .data, .pinned], laidTests := true, laidLooks := .later }
def NpatPlainCardSaid : Prop := Claim7.holds Tryd.pinned (.plain (OpenSpec.ofChange npatPlainSpec)) npatPlainCard

/-- THE SECOND FORM's CARD OF 'linguisterlaw6.TagShort'. -/
def tagShortUptoCard : Claim7 := { stood := { row := tagShortUptoRow, standIns := [], harness := (true, "d7591571f6e86439f35f253dff96e75d8d8ba73e1dac1f0aba260f919b69e8cf"), looks := false }, kinds := [], alts := [], laidByText := true, laidKinds := [.data, .pinned], laidTests := true, laidLooks := .later }
def TagShortUptoCardSaid : Prop := Claim7.holds Tryd.pinned (.plain (OpenSpec.upto tagShortSpec)) tagShortUptoCard

/-- THE SECOND FORM's CARD OF 'linguisterlaw6.ChainEnds'. -/
def chainEndsUptoCard : Claim7 := { stood := { row := chainEndsUptoRow, standIns := [], harness := (true, "d7591571f6e86439f35f253dff96e75d8d8ba73e1dac1f0aba260f919b69e8cf"), looks := false }, kinds := [], alts := [], laidByText := true, laidKinds := [.data, .pinned], laidTests := true, laidLooks := .later }
def ChainEndsUptoCardSaid : Prop := Claim7.holds Tryd.pinned (.plain (OpenSpec.upto chainEndsSpec)) chainEndsUptoCard

/-- THE SECOND FORM's CARD OF 'linguisterlaw6.PickSelf'. -/
def pickSelfUptoCard : Claim7 := { stood := { row := pickSelfUptoRow, standIns := [], harness := (true, "d7591571f6e86439f35f253dff96e75d8d8ba73e1dac1f0aba260f919b69e8cf"), looks := false }, kinds := [], alts := [], laidByText := true, laidKinds := [.data, .pinned], laidTests := true, laidLooks := .later }
def PickSelfUptoCardSaid : Prop := Claim7.holds Tryd.pinned (.plain (OpenSpec.upto pickSelfSpec)) pickSelfUptoCard

/-- THE SECOND FORM's CARD OF 'linguisterlaw6.FindEnglish'. -/
def findEnglishUptoCard : Claim7 := { stood := { row := findEnglishUptoRow, standIns := [], harness := (true, "d7591571f6e86439f35f253dff96e75d8d8ba73e1dac1f0aba260f919b69e8cf"), looks := false }, kinds := [], alts := [], laidByText := true, laidKinds := [.data, .pinned], laidTests := true, laidLooks := .later }
def FindEnglishUptoCardSaid : Prop := Claim7.holds Tryd.pinned (.plain (OpenSpec.upto findEnglishSpec)) findEnglishUptoCard

/-- THE SECOND FORM's CARD OF 'linguisterlaw6.NoutWhole'. -/
def noutWholeUptoCard : Claim7 := { stood := { row := noutWholeUptoRow, standIns := [], harness := (true, "d7591571f6e86439f35f253dff96e75d8d8ba73e1dac1f0aba260f919b69e8cf"), looks := false }, kinds := [], alts := [], laidByText := true, laidKinds := [.data, .data, .data, .data, .pinned], laidTests := true, laidLooks := .later }
def NoutWholeUptoCardSaid : Prop := Claim7.holds Tryd.pinned (.plain (OpenSpec.upto noutWholeSpec)) noutWholeUptoCard

/-- THE SECOND FORM's CARD OF 'linguisterlaw6.NpatPlain'. -/
def npatPlainUptoCard : Claim7 := { stood := { row := npatPlainUptoRow, standIns := [], harness := (true, "d7591571f6e86439f35f253dff96e75d8d8ba73e1dac1f0aba260f919b69e8cf"), looks := false }, kinds := [], alts := [], laidByText := true, laidKinds := [.data, .data, .data, .data, .pinned], laidTests := true, laidLooks := .later }
def NpatPlainUptoCardSaid : Prop := Claim7.holds Tryd.pinned (.plain (OpenSpec.upto npatPlainSpec)) npatPlainUptoCard
end Rows
end Go.Proofs.YtdpdnanjanceeaaDoor
