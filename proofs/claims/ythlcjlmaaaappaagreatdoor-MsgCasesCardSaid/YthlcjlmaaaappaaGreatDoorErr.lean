/- An Errno as an error. -/
import Derived.Test.YthlcjlmaaaappaaGreatDoorBase
namespace Go.Proofs.YthlcjlmaaaappaaGreatDoor
open Go.RowKit
abbrev errT (k : Int) : Value := .iface 31 (.int .i64 k)
def errOf (k : Int) : Value := if k = 0 then .nilIface else errT k
end Go.Proofs.YthlcjlmaaaappaaGreatDoor
