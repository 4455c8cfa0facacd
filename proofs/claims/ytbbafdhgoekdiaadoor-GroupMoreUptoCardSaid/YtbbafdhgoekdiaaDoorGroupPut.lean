/- group.check, group.Put where it tells a fault. -/
import Derived.Test.YtbbafdhgoekdiaaDoorGroup
import Derived.Test.YtbbafdhgoekdiaaDoorGroupPlain
import Derived.Test.YtbbafdhgoekdiaaDoorRowsS
namespace Go.Proofs.YtbbafdhgoekdiaaDoor
open Go.RowKit

abbrev errG (k : Int) : Value := .iface 57 (.int .i64 k)

theorem group_check_ok (c : Int) (w : World) (h : ¬ (48 ≤ c ∧ c ≤ 57)) :
    Calls Tryd.prog 32 #[.int .i64 3, .int .i64 0, .int .u8 c] w fun e w' => e = .returned .nilIface ∧ w = w' := by
  go_enter Tryd.func32, Tryd.ntmps32
  go_wp2_with fail
  all_goals go_ret
  all_goals exact ⟨rfl, rfl⟩
theorem group_check_no (c : Int) (w : World) (h1 : 48 ≤ c) (h2 : c ≤ 57) :
    Calls Tryd.prog 32 #[.int .i64 3, .int .i64 0, .int .u8 c] w fun e w' => e = .returned (errG 3) ∧ w = w' := by
  go_enter Tryd.func32, Tryd.ntmps32
  go_wp2_with fail
  all_goals go_ret
  all_goals exact ⟨rfl, rfl⟩

theorem group_put_no (s : ByteArray) (c : Int) (w : World) (hs : s.size ≤ 9000000000000000000) (h : digitsB s = false ∨ (48 ≤ c ∧ c ≤ 57)) :
    Calls Tryd.prog 22 #[.string s, .int .i64 3, .int .i64 0, .int .u8 c] w fun e w' => e = .returned (.tuple #[.string ⟨#[]⟩, errG 3]) ∧ Below w.heap.size w w' := by
  go_enter Tryd.func22, Tryd.ntmps22
  go_wp2_with fail
  refine (group_digits s w hs).mono ?_
  cases hd : digitsB s
  · rintro e w1 ⟨rfl, hb1⟩
    go_wp2_with fail
    go_ret2
    exact ⟨rfl, (by (repeat (first | with_reducible exact Below.refl _ _ | with_reducible refine bel_set ?_ ?_ | with_reducible refine bel_alloc ?_ ?_ | with_reducible refine Below.drew ?_ | with_reducible refine bel_drewN _ ?_ | with_reducible refine bel_call ?_ (by assumption) ?_)); all_goals (first | (simp; done) | omega | (simp; omega)))⟩
  · have hc : 48 ≤ c ∧ c ≤ 57 := by rcases h with h | h; (rw [hd] at h; cases h); exact h
    rintro e w1 ⟨rfl, hb1⟩
    clear hd h
    go_wp2_with fail
    refine (group_check_no c _ hc.1 hc.2).mono ?_
    rintro e w2 ⟨rfl, rfl⟩
    go_wp2_with fail
    go_ret2
    exact ⟨rfl, (by (repeat (first | with_reducible exact Below.refl _ _ | with_reducible refine bel_set ?_ ?_ | with_reducible refine bel_alloc ?_ ?_ | with_reducible refine Below.drew ?_ | with_reducible refine bel_drewN _ ?_ | with_reducible refine bel_call ?_ (by assumption) ?_)); all_goals (first | (simp; done) | omega | (simp; omega)))⟩
end Go.Proofs.YtbbafdhgoekdiaaDoor
