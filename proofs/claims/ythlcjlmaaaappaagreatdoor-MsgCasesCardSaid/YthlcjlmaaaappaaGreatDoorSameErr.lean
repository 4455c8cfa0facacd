/- linguistersame.Error. -/
import Derived.Test.YthlcjlmaaaappaaGreatDoorTold
import Derived.Test.YthlcjlmaaaappaaGreatDoorErr
namespace Go.Proofs.YthlcjlmaaaappaaGreatDoor
open Go.RowKit

theorem told_of (k : Int) (w : World) (hE : ErrT w) : Calls Tryz.prog 24 #[errOf k] w fun e w' => e = .returned (.int .i64 k) ∧ Below w.heap.size w w' := by
  by_cases h : k = 0
  · rw [show errOf k = .nilIface from if_pos h, h]; exact told_nil w
  · rw [show errOf k = errT k from if_neg h]; exact told_err k w hE
theorem same_err (k e : Int) (w : World) (hE : ErrT w) : Calls Tryz.prog 10 #[errOf k, .int .i64 e] w fun v w' => v = .returned (.bool (k == e)) ∧ Below w.heap.size w w' := by
  have K := Lib.hid (told_of k w hE)
  clear hE
  generalize errOf k = v at *
  go_enter Tryz.func10, Tryz.ntmps10
  go_wp2_with fail
  refine K.out.mono ?_
  rintro e w1 ⟨rfl, hb1⟩
  go_wp2_with fail
  go_ret
  exact ⟨rfl, hb1⟩
end Go.Proofs.YthlcjlmaaaappaaGreatDoor
