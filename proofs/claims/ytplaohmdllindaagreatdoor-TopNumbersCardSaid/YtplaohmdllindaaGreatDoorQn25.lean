/- KindsLaid: texts put together. -/
import Derived.Test.YtplaohmdllindaaGreatDoorQn18
import Derived.Test.YtplaohmdllindaaGreatDoorQn24
set_option linter.unusedVariables false
set_option linter.unusedSimpArgs false
/- What a row that lists plural.kinds gives the walks. -/
namespace Go.Proofs.YtplaohmdllindaaGreatDoor
open Go.RowKit

theorem gKinds : Tryz.prog.globalNamed "linguister/plural.kinds" = some 0 := by kernel_rfl
theorem gKindsType : (Tryz.prog.globals[0]?).map (·.type) = some 76 := by kernel_rfl
theorem cells_str : Tryz.prog.cellsOf 9 = 1 := by kernel_rfl
set_option maxRecDepth 100000 in
theorem kinds_of {W : World} {l : List (String × DataW Unit)} (h : laidMet Tryz.prog l W) (hm : ("linguister/plural.kinds", Rows.laid_linguister_plural_kinds) ∈ l) : KindsAt W := by
  obtain ⟨g', t', cs, fuel, p, hg', ht', hvar, hd⟩ := Lib.laidMet.reads h hm
  obtain rfl := Option.some.inj (gKinds.symm.trans hg')
  obtain rfl := Option.some.inj (gKindsType.symm.trans ht')
  obtain ⟨xs, m, _, hx, hcl, hxl, hat⟩ := DataW.trod_array Tryz.underlying76 hd
  simp only [cells_str, Nat.mul_one, Prod.mk.injEq] at hat hx
  intro k hk
  have hdat : (xs.map (·.1))[k]? = some (.lit (.string (kindT k).data.toList)) := by
    have e := hx.1
    unfold Rows.laid_linguister_plural_kinds at e
    injection e with e
    rw [← e]
    have hc : k = 0 ∨ k = 1 ∨ k = 2 ∨ k = 3 ∨ k = 4 := by omega
    rcases hc with rfl | rfl | rfl | rfl | rfl <;> rfl
  have hxk : xs[k]? = some (xs[k]'(by omega)) := List.getElem?_eq_getElem (by omega)
  obtain ⟨s, e1, e2, _⟩ := DataW.trod_string Tryz.underlying9 ((hat k hk).trans hxk)
  rw [List.getElem?_map, hxk, e2] at hdat
  simp only [Option.map_some, Option.some.injEq, DataW.lit.injEq, Lit.string.injEq] at hdat
  have hs : s = kindT k := by
    apply ByteArray.ext
    exact Array.ext' hdat
  rw [World.var?_cell gKinds hvar k, ← hs]
  have := congrArg (·[0]?) e1
  simpa [List.getElem?_take, List.getElem?_drop] using this
end Go.Proofs.YtplaohmdllindaaGreatDoor
