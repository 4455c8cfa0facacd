/- The bytes of texts. -/
import Derived.Below
namespace Go.Proofs.YthlcjlmaaaappaaGreatDoor
abbrev listsOf (vs : List ByteArray) : List (List UInt8) := vs.map (·.data.toList)
end Go.Proofs.YthlcjlmaaaappaaGreatDoor
