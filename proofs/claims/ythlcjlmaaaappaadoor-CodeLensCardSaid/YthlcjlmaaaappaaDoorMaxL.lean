/- The library's bytealg.MaxLen. -/
import Derived.Test.YthlcjlmaaaappaaDoorBase
namespace Go.Proofs.YthlcjlmaaaappaaDoor
open Go.RowKit

def MaxL (w : World) : Prop := ∃ m : Int, w.cell? ⟨1, 0, none⟩ = some (.int .i64 m)
theorem MaxL.below {w w' : World} (h : MaxL w) (hb : Below w.heap.size w w') : MaxL w' := by
  obtain ⟨m, hm⟩ := h
  exact ⟨m, carry hb hm⟩
end Go.Proofs.YthlcjlmaaaappaaDoor
