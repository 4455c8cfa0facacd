/- DecCheck: texts put together. -/
import Derived.Test.YthlcjlmaaaappaaGreatDoorRows
import Derived.Test.YthlcjlmaaaappaaGreatDoorCo1
import Derived.WalkKit
import Derived.WalkSpells
import Derived.WalkLawsBesides
import Derived.Deep.QuietTactic
import Derived.BigQuiet
import Derived.Lib.Hide
set_option linter.unusedVariables false
set_option linter.unusedSimpArgs false
/- dec.Check. -/
namespace Go.Proofs.YthlcjlmaaaappaaGreatDoor
open Go.RowKit

abbrev errV (k : Int) : Value := .iface 31 (.int .i64 k)

theorem dec_check_ok (c s : Int) (w : World) (h : decOk c s) :
    Calls Tryz.prog 61 #[.agg #[.int .i64 c, .int .i64 s]] w fun e w' => e = .returned .nilIface ∧ Below w.heap.size w w' := by
  obtain ⟨h1, h2, h3, h4⟩ := h
  go_enter Tryz.func61, Tryz.ntmps61
  go_wp2
  go_ret
  exact ⟨rfl, (Below.refl _ _).alloc (Nat.le_refl _) _⟩

theorem dec_check_no (c s : Int) (w : World) (h : ¬ decOk c s) :
    Calls Tryz.prog 61 #[.agg #[.int .i64 c, .int .i64 s]] w fun e w' => e = .returned (errV 1) ∧ Below w.heap.size w w' := by
  unfold decOk at h
  go_enter Tryz.func61, Tryz.ntmps61
  go_wp2
  all_goals go_ret
  all_goals exact ⟨rfl, (Below.refl _ _).alloc (Nat.le_refl _) _⟩

abbrev decV (c s : Int) : Value := .agg #[.int .i64 c, .int .i64 s]
end Go.Proofs.YthlcjlmaaaappaaGreatDoor
