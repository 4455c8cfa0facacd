/- MsgMessage, MsgCheck, MsgShow, MsgParse, Parts, RefTagText: texts put together. -/
import Derived.Test.YtplaohmdllindaaGreatDoorQn8
import Derived.Test.YtplaohmdllindaaGreatDoorQn4
import Derived.Test.YtplaohmdllindaaGreatDoorQn10
import Derived.Defers
import Derived.Deep.RegionHeld3
import Derived.Recover
import Derived.Test.YtplaohmdllindaaGreatDoorQn30
import Derived.Test.YtplaohmdllindaaGreatDoorQn24
import Derived.Test.YtplaohmdllindaaGreatDoorQn3
set_option linter.unusedVariables false
set_option linter.unusedSimpArgs false
/- msg.reader.message at "{a}". -/
namespace Go.Proofs.YtplaohmdllindaaGreatDoor
open Go.RowKit

end Go.Proofs.YtplaohmdllindaaGreatDoor

/- msg.check, msg.Check at one node whose cases have no nodes. -/
namespace Go.Proofs.YtplaohmdllindaaGreatDoor
open Go.RowKit

end Go.Proofs.YtplaohmdllindaaGreatDoor

/- msg.Check at the node of "{a}". -/
namespace Go.Proofs.YtplaohmdllindaaGreatDoor
open Go.RowKit

end Go.Proofs.YtplaohmdllindaaGreatDoor

/- msg.Parse at "{a}". -/
namespace Go.Proofs.YtplaohmdllindaaGreatDoor
open Go.RowKit

theorem parse_idle (p q : Addr) (w : World) :
    CallsD Tryz.prog 25 #[.pointer (some p), .pointer (some q)] .returning w fun e u' w' => e = .returned (.tuple #[]) ∧ u' = .returning ∧ w' = w := by
  refine callsD_of_wpS Tryz.func25 rfl fun c₀ cs hu => ?_
  apply wpS_seq
  apply wpS_region
  simp [wpOpsS, go_sem, recoverD, hu, Tryz.ntmps25, Exit.thenS]
  apply wpS_seq
  apply wpS_region
  simp [wpOpsS, go_sem, hu, Exit.thenS]
  refine wpS_cond (t := false) (by simp [Act.eval, Array.replicate]) ?_
  simp only [Bool.false_eq_true, if_false]
  refine wpS_of_wp (wp_skip ?_)
  cases c₀
  simp_all [bodyPostS, results, Tryz.results25]

end Go.Proofs.YtplaohmdllindaaGreatDoor

/- linguisterref1.Parts. -/
namespace Go.Proofs.YtplaohmdllindaaGreatDoor
open Go.RowKit

end Go.Proofs.YtplaohmdllindaaGreatDoor

/- linguisterref1.TagText. -/
namespace Go.Proofs.YtplaohmdllindaaGreatDoor
open Go.RowKit

end Go.Proofs.YtplaohmdllindaaGreatDoor
