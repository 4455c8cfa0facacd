/- An Errno as an error. -/
import Derived.Test.YtkklemhhimcahaaDoorBase
namespace Go.Proofs.YtkklemhhimcahaaDoor
open Go.RowKit
abbrev errT (k : Int) : Value := .iface 61 (.int .i64 k)
def errOf (k : Int) : Value := if k = 0 then .nilIface else errT k
end Go.Proofs.YtkklemhhimcahaaDoor
