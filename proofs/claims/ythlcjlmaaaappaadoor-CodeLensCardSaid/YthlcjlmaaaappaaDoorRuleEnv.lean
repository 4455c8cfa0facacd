/- What the library's tables hold. -/
import Derived.Test.YthlcjlmaaaappaaDoorItoa
import Derived.Test.YthlcjlmaaaappaaDoorMaxL
namespace Go.Proofs.YthlcjlmaaaappaaDoor
open Go.RowKit

/-- what is asked of the library's own variables -/
structure RuleEnv (w : World) : Prop where
  maxl : MaxL w
  pow : Pow w
  syn : ∃ te pe, w.cell? ⟨4, 0, none⟩ = some (.iface te pe)
  ran : ∃ te pe, w.cell? ⟨5, 0, none⟩ = some (.iface te pe)
theorem RuleEnv.below {w w' : World} (h : RuleEnv w) (hb : Below w.heap.size w w') : RuleEnv w' := by
  obtain ⟨h1, h2, ⟨t1, p1, h3⟩, ⟨t2, p2, h4⟩⟩ := h
  exact ⟨h1.below hb, h2.below hb, ⟨t1, p1, carry hb h3⟩, ⟨t2, p2, carry hb h4⟩⟩

end Go.Proofs.YthlcjlmaaaappaaDoor
