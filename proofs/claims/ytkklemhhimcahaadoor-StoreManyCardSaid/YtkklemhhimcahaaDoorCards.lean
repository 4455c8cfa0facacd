/-
  DERIVED. GIVEN WITH THE SEED: THE CARDS: each row of YtkklemhhimcahaaDoorRows.lean that lists a variable, with what it lists TIED to the program's text (the seventh form; the later family's looks); each row that meets fmt, with fmt's text TOLD by the authors' own Lean function (tested against real Go, not proved from fmt's source: count such statements apart). THE CARD IS WHAT COUNTS. Prove the row's statement (the work); the ties are given (YtkklemhhimcahaaDoorTie.lean); close each card by the builder's one call (the guide's Derived/Test/ToyasCard.lean, 'card_holds'). Laid BY PROGRAM, IN A SANDBOX (cutbox-door.mjs). By AI agents, Wed Nov 11 2026. No macro, syntax, notation, axiom, sorry.
-/
import Derived.Test.YtkklemhhimcahaaDoorRows
import GoSem.ClaimSeven
namespace Go.Proofs.YtkklemhhimcahaaDoor
namespace Rows

/-- THE TIED CARD OF 'linguisterlaw6.RuleOr'. -/
def ruleOrCard : Claim7 := { stood := { row := ruleOrRow, standIns := [], harness := (true, "45d74a546af1f11fd73406163e45039b43de07ff83afb2bca70007e5bdfdb12a"), looks := true }, kinds := [], alts := [], laidByText := true, laidKinds := [.data, .data, .data, .data, .sentinel, .sentinel, .pinned], laidTests := true, laidLooks := .later }
def RuleOrCardSaid : Prop := Claim7.holds Tryd.pinned (.plain (OpenSpec.ofChange ruleOrSpec)) ruleOrCard

/-- THE TIED CARD OF 'linguisterlaw6.PluralLess'. -/
def pluralLessCard : Claim7 := { stood := { row := pluralLessRow, standIns := [], harness := (true, "45d74a546af1f11fd73406163e45039b43de07ff83afb2bca70007e5bdfdb12a"), looks := true }, kinds := [], alts := [], laidByText := true, laidKinds := [.data, .data, .data, .data, .sentinel, .sentinel, .data, .pinned], laidTests := true, laidLooks := .later }
def PluralLessCardSaid : Prop := Claim7.holds Tryd.pinned (.plain (OpenSpec.ofChange pluralLessSpec)) pluralLessCard

/-- THE TIED CARD OF 'linguisterlaw6.LangSame'. -/
def langSameCard : Claim7 := { stood := { row := langSameRow, standIns := [], harness := (true, "45d74a546af1f11fd73406163e45039b43de07ff83afb2bca70007e5bdfdb12a"), looks := true }, kinds := [], alts := [], laidByText := true, laidKinds := [.data, .data, .data, .data, .sentinel, .sentinel, .data, .pinned], laidTests := true, laidLooks := .later }
def LangSameCardSaid : Prop := Claim7.holds Tryd.pinned (.plain (OpenSpec.ofChange langSameSpec)) langSameCard

/-- THE TIED CARD OF 'linguisterlaw6.StoreMany'. -/
def storeManyCard : Claim7 := { stood := { row := storeManyRow, standIns := [], harness := (true, "45d74a546af1f11fd73406163e45039b43de07ff83afb2bca70007e5bdfdb12a"), looks := true }, kinds := [], alts := [], laidByText := true, laidKinds := [.data, .pinned], laidTests := true, laidLooks := .later }
def StoreManyCardSaid : Prop := Claim7.holds Tryd.pinned (.plain (OpenSpec.ofChange storeManySpec)) storeManyCard

/-- THE SECOND FORM's CARD OF 'linguisterlaw6.RuleOr'. -/
def ruleOrUptoCard : Claim7 := { stood := { row := ruleOrUptoRow, standIns := [], harness := (true, "45d74a546af1f11fd73406163e45039b43de07ff83afb2bca70007e5bdfdb12a"), looks := true }, kinds := [], alts := [], laidByText := true, laidKinds := [.data, .data, .data, .data, .sentinel, .sentinel, .pinned], laidTests := true, laidLooks := .later }
def RuleOrUptoCardSaid : Prop := Claim7.holds Tryd.pinned (.plain (OpenSpec.upto ruleOrSpec)) ruleOrUptoCard

/-- THE SECOND FORM's CARD OF 'linguisterlaw6.PluralLess'. -/
def pluralLessUptoCard : Claim7 := { stood := { row := pluralLessUptoRow, standIns := [], harness := (true, "45d74a546af1f11fd73406163e45039b43de07ff83afb2bca70007e5bdfdb12a"), looks := true }, kinds := [], alts := [], laidByText := true, laidKinds := [.data, .data, .data, .data, .sentinel, .sentinel, .data, .pinned], laidTests := true, laidLooks := .later }
def PluralLessUptoCardSaid : Prop := Claim7.holds Tryd.pinned (.plain (OpenSpec.upto pluralLessSpec)) pluralLessUptoCard

/-- THE SECOND FORM's CARD OF 'linguisterlaw6.LangSame'. -/
def langSameUptoCard : Claim7 := { stood := { row := langSameUptoRow, standIns := [], harness := (true, "45d74a546af1f11fd73406163e45039b43de07ff83afb2bca70007e5bdfdb12a"), looks := true }, kinds := [], alts := [], laidByText := true, laidKinds := [.data, .data, .data, .data, .sentinel, .sentinel, .data, .pinned], laidTests := true, laidLooks := .later }
def LangSameUptoCardSaid : Prop := Claim7.holds Tryd.pinned (.plain (OpenSpec.upto langSameSpec)) langSameUptoCard

/-- THE SECOND FORM's CARD OF 'linguisterlaw6.StoreMany'. -/
def storeManyUptoCard : Claim7 := { stood := { row := storeManyUptoRow, standIns := [], harness := (true, "45d74a546af1f11fd73406163e45039b43de07ff83afb2bca70007e5bdfdb12a"), looks := true }, kinds := [], alts := [], laidByText := true, laidKinds := [.data, .pinned], laidTests := true, laidLooks := .later }
def StoreManyUptoCardSaid : Prop := Claim7.holds Tryd.pinned (.plain (OpenSpec.upto storeManySpec)) storeManyUptoCard
end Rows
end Go.Proofs.YtkklemhhimcahaaDoor
