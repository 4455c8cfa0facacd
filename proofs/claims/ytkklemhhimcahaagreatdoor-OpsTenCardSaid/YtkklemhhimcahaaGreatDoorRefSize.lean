/- linguisterref1.Size. -/
import Derived.Test.YtkklemhhimcahaaGreatDoorDecCheck
import Derived.IntWalk
import Derived.WalkLawsBesides
namespace Go.Proofs.YtkklemhhimcahaaGreatDoor
open Go.RowKit

theorem size_neg (n : Int) (w : World) (a : Int) (h : n < 0) (e : IntKind.i64.wrap (-n) = a) :
    Calls Tryz.prog 11 #[.int .i64 n] w fun e w' => e = .returned (.int .i64 a) ∧ w = w' := by
  have e' : IntKind.i64.wrap (0 - n) = a := by rw [Int.zero_sub]; exact e
  go_enter Tryz.func11, Tryz.ntmps11
  go_wp2_with fail
  go_ret
  exact ⟨rfl, rfl⟩
theorem size_pos (n : Int) (w : World) (h : ¬ n < 0) :
    Calls Tryz.prog 11 #[.int .i64 n] w fun e w' => e = .returned (.int .i64 n) ∧ w = w' := by
  go_enter Tryz.func11, Tryz.ntmps11
  go_wp2_with fail
  go_ret
  exact ⟨rfl, rfl⟩
theorem ref_size (n : Int) (w : World) (h0 : -9223372036854775807 ≤ n) (h1 : n ≤ 9223372036854775807) :
    Calls Tryz.prog 11 #[.int .i64 n] w fun e w' => e = .returned (.int .i64 n.natAbs) ∧ w = w' := by
  by_cases h : n < 0
  · exact size_neg n w _ h (by rw [IntWalk.i64_in _ (by omega)]; omega)
  · have e : ((n.natAbs : Nat) : Int) = n := by omega
    rw [e]
    exact size_pos n w h
end Go.Proofs.YtkklemhhimcahaaGreatDoor
