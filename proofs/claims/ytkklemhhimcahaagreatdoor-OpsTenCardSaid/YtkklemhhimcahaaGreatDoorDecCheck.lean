/- dec.Check. -/
import Derived.Test.YtkklemhhimcahaaGreatDoorRows
import Derived.Test.YtkklemhhimcahaaGreatDoorBase
import Derived.Test.YtkklemhhimcahaaGreatDoorPlains
import Derived.WalkKit
import Derived.WalkSpells
import Derived.WalkLawsBesides
import Derived.Deep.QuietTactic
import Derived.BigQuiet
import Derived.Lib.Hide
namespace Go.Proofs.YtkklemhhimcahaaGreatDoor
open Go.RowKit

abbrev errV (k : Int) : Value := .iface 57 (.int .i64 k)

theorem dec_check_ok (c s : Int) (w : World) (h : decOk c s) :
    Calls Tryz.prog 10 #[.agg #[.int .i64 c, .int .i64 s]] w fun e w' => e = .returned .nilIface ∧ Below w.heap.size w w' := by
  obtain ⟨h1, h2, h3, h4⟩ := h
  go_enter Tryz.func10, Tryz.ntmps10
  go_wp2
  go_ret
  exact ⟨rfl, (Below.refl _ _).alloc (Nat.le_refl _) _⟩

theorem dec_check_no (c s : Int) (w : World) (h : ¬ decOk c s) :
    Calls Tryz.prog 10 #[.agg #[.int .i64 c, .int .i64 s]] w fun e w' => e = .returned (errV 1) ∧ Below w.heap.size w w' := by
  unfold decOk at h
  go_enter Tryz.func10, Tryz.ntmps10
  go_wp2
  all_goals go_ret
  all_goals exact ⟨rfl, (Below.refl _ _).alloc (Nat.le_refl _) _⟩

abbrev decV (c s : Int) : Value := .agg #[.int .i64 c, .int .i64 s]
end Go.Proofs.YtkklemhhimcahaaGreatDoor
