/- Parts, RefTagText: texts put together. -/
import Derived.Test.YtplaohmdllindaaGreatDoorTd43
import Derived.Test.YtplaohmdllindaaGreatDoorTd24
import Derived.Test.YtplaohmdllindaaGreatDoorTd3
set_option linter.unusedVariables false
set_option linter.unusedSimpArgs false
/- linguisterref1.Parts. -/
namespace Go.Proofs.YtplaohmdllindaaGreatDoor
open Go.RowKit

end Go.Proofs.YtplaohmdllindaaGreatDoor

/- linguisterref1.TagText. -/
namespace Go.Proofs.YtplaohmdllindaaGreatDoor
open Go.RowKit

end Go.Proofs.YtplaohmdllindaaGreatDoor
