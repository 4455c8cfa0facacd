/- An Errno as an error. -/
import Derived.Test.YthlcjlmaaaappaaDoorBase
namespace Go.Proofs.YthlcjlmaaaappaaDoor
open Go.RowKit
abbrev errT (k : Int) : Value := .iface 58 (.int .i64 k)
def errOf (k : Int) : Value := if k = 0 then .nilIface else errT k
end Go.Proofs.YthlcjlmaaaappaaDoor
