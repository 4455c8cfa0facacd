/- HandleLaid: texts put together. -/
import Derived.Test.YthlcjlmaaaappaaGreatDoorEw9
import Derived.Test.YthlcjlmaaaappaaGreatDoorRows
import Derived.Stop.Joined
import Derived.Lay
import Derived.LaidSub
import Derived.LaidHandle
set_option linter.unusedVariables false
set_option linter.unusedSimpArgs false
/- What a row that lists errors.errorType gives the walks; a start for such a row. -/
namespace Go.Proofs.YthlcjlmaaaappaaGreatDoor
open Go.RowKit

theorem gErrT : Tryz.prog.globalNamed "errors.errorType" = some 0 := by kernel_rfl
theorem rtType : (Tryz.prog.cutTypes.find? (·.1 == "internal/reflectlite.rtype")).map (·.2) = some 179 := by kernel_rfl
theorem errRow : (List.range 327).filter (fun t => Tryz.prog.rowNamed t [101, 114, 114, 111, 114]) = [25] := by kernel_rfl
theorem nTypes : Tryz.prog.types.size = 327 := by kernel_rfl
theorem errT_of {W : World} {l : List (String × DataW Unit)} (h : laidMetH Tryz.prog l W) (hm : ("errors.errorType", Rows.laid_errors_errorType) ∈ l) : ErrT W := by
  obtain ⟨name, u, ty, e1, e2, e3, e4, e5⟩ := (laidMetH_iff.1 h).2 _ (List.mem_filter.2 ⟨hm, rfl⟩)
  have en : name = [101, 114, 114, 111, 114] := (Option.some.inj e1).symm
  subst en
  obtain rfl := Option.some.inj (rtType.symm.trans e2)
  have hm : ty ∈ (List.range 327).filter fun t => Tryz.prog.rowNamed t [101, 114, 114, 111, 114] := List.mem_filter.2 ⟨List.mem_range.2 (by rw [← nTypes]; exact e3), e4⟩
  rw [errRow] at hm
  obtain rfl := List.mem_singleton.1 hm
  have hh : typeHandle Tryz.prog 25 = .pointer (some ⟨13, 25, none⟩) := by kernel_rfl
  rw [hh] at e5
  have hfin := World.var?_cell gErrT e5 0
  simp at hfin
  exact hfin
theorem plain_of {W : World} {l : List (String × DataW Unit)} (h : laidMetH Tryz.prog l W) : laidMet Tryz.prog (l.filter fun x => x.2.handleName?.isNone) W := (laidMetH_iff.1 h).1

/-- the start: the handle first, then all that is plain data -/
noncomputable def handled (os : Os) : World :=
  { World.holding Tryz.prog os ⟨#[], #[], []⟩ with heap := (World.holding Tryz.prog os ⟨#[], #[], []⟩).heap.modify 0 fun
      | .cells _ t f => .cells #[.iface 179 (.agg #[.pointer (some ⟨13, 25, none⟩)])] t f
      | o => o }
noncomputable def laidH (os : Os) (l : List (String × DataW Unit)) : World := (handled os).layVars Tryz.prog (l.filter fun x => x.2.handleName?.isNone)
theorem laidH_met {os : Os} {l : List (String × DataW Unit)} {w' : World} (hh : w'.heap = (laidH os l).heap)
    (hf : (handled os).layFits Tryz.prog (l.filter fun x => x.2.handleName?.isNone) [] = true)
    (hi : (handled os).layIfaces Tryz.prog (l.filter fun x => x.2.handleName?.isNone) (laidH os l) = true)
    (h2 : (l.filter fun x => x.2.handleName?.isSome && x.2.funcsIn?.isNone).all (handleAtB Tryz.prog (laidH os l)) = true)
    (h3 : funcsRun Tryz.prog (laidH os l) 8 ((funcsListed l).map (·.1)) = some ((funcsListed l).map (·.2.funcsOut))) : laidMetH Tryz.prog l w' := by
  have e1 : ∀ m : List (String × DataW Unit), (m.filter fun x => (m.map (·.1)).contains x.1) = m := fun m => List.filter_eq_self.2 fun x hx => List.contains_iff_mem.2 (List.mem_map.2 ⟨x, hx, rfl⟩)
  have e2 : ∀ m : List (String × DataW Unit), (m.filter fun x => !(m.map (·.1)).contains x.1) = [] := fun m => List.filter_eq_nil_iff.2 fun x hx => by rw [List.contains_iff_mem.2 (List.mem_map.2 ⟨x, hx, rfl⟩)]; simp
  have hm : laidMet Tryz.prog (l.filter fun x => x.2.handleName?.isNone) (laidH os l) :=
    laidMet_layVars (w0 := handled os) ((l.filter fun x => x.2.handleName?.isNone).map (·.1)) [] (by rw [e1]; rfl) (by rw [e1]; exact hf) (by rw [e1]; exact hi) (by rw [e2]; exact LaidIn.none)
  exact laidMetH.of_heap hh.symm (laidMetH_of_parts3 hm h2 h3)
theorem laidH_os (os : Os) (l : List (String × DataW Unit)) : (laidH os l).os = os := World.layVars_os _ _ _
end Go.Proofs.YthlcjlmaaaappaaGreatDoor
