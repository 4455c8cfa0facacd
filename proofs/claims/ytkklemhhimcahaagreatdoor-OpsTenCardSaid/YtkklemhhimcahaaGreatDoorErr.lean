/- An Errno as an error. -/
import Derived.Test.YtkklemhhimcahaaGreatDoorBase
namespace Go.Proofs.YtkklemhhimcahaaGreatDoor
open Go.RowKit
abbrev errT (k : Int) : Value := .iface 57 (.int .i64 k)
def errOf (k : Int) : Value := if k = 0 then .nilIface else errT k
end Go.Proofs.YtkklemhhimcahaaGreatDoor
