/- week.Date: a day is told of each week that is one's. -/
import Derived.Test.YtbbafdhgoekdiaaDoorDateOf
import Derived.Test.YtbbafdhgoekdiaaDoorWeek
import Derived.Deep.RegionWith
import Derived.BigRegion
import Derived.Deep.RegionHeld3
namespace Go.Proofs.YtbbafdhgoekdiaaDoor
open Go.RowKit

set_option maxHeartbeats 1000000 in
theorem week_date_some (y k d : Int) (w : World) (hA : Ahead w) (h1 : 1 ≤ y) (h2 : y ≤ 9999) (k1 : 1 ≤ k) (k2 : k ≤ weeksV y) (d1 : 1 ≤ d) (d2 : d ≤ 7) (hn : firstV y + 7 * (k - 1) + d - 1 < 3652059) :
    Calls Tryd.prog 35 #[weekV y k d] w fun e w' => (∃ a b c : Int, e = .returned (.tuple #[.agg #[.int .i64 a, .int .i64 b, .int .i64 c], .nilIface])) ∧ Below w.heap.size w w' := by
  have HA := Lib.hid hA
  clear hA
  have hk := weeksV_bd y h1
  have hf := firstV_bd y h1 (by omega)
  have hk53 : k ≤ 53 := by omega
  clear hk
  go_enter Tryd.func35, Tryd.ntmps35
  go_wp2_with fail
  refine (week_weeks_ok y _ h1 h2).mono ?_
  rintro e w1 ⟨rfl, rfl⟩
  generalize weeksV y = K at *
  go_wp2_with fail
  have e1 : IntKind.i64.wrap (k - 1) = k - 1 := IntWalk.i64_in _ (by omega)
  have e2 : IntKind.i64.wrap (7 * (k - 1)) = 7 * (k - 1) := IntWalk.i64_in _ (by omega)
  have e3 : IntKind.i64.wrap (firstV y + 7 * (k - 1)) = firstV y + 7 * (k - 1) := IntWalk.i64_in _ (by omega)
  have e4 : IntKind.i64.wrap (firstV y + 7 * (k - 1) + d) = firstV y + 7 * (k - 1) + d := IntWalk.i64_in _ (by omega)
  have e5 : IntKind.i64.wrap (firstV y + 7 * (k - 1) + d - 1) = firstV y + 7 * (k - 1) + d - 1 := IntWalk.i64_in _ (by omega)
  have c0 : ((w.alloc (.cells #[.int .i64 y, .int .i64 k, .int .i64 d] 32)).alloc (.cells #[.int .i64 0, .int .i64 0, .int .i64 0] 27)).cell? ⟨w.heap.size, 0, none⟩ = some (.int .i64 y) := by go_simp
  have c1 : ((w.alloc (.cells #[.int .i64 y, .int .i64 k, .int .i64 d] 32)).alloc (.cells #[.int .i64 0, .int .i64 0, .int .i64 0] 27)).cell? ⟨w.heap.size, 1, none⟩ = some (.int .i64 k) := by go_simp
  have c2 : ((w.alloc (.cells #[.int .i64 y, .int .i64 k, .int .i64 d] 32)).alloc (.cells #[.int .i64 0, .int .i64 0, .int .i64 0] 27)).cell? ⟨w.heap.size, 2, none⟩ = some (.int .i64 d) := by go_simp
  go_region_held3 (fun w' => w'.cell? ⟨w.heap.size, 0, none⟩ = some (.int .i64 y) ∧ w'.cell? ⟨w.heap.size, 1, none⟩ = some (.int .i64 k) ∧ w'.cell? ⟨w.heap.size, 2, none⟩ = some (.int .i64 d)) (first | go_keep | exact ⟨carry hb1 c0, carry hb1 c1, carry hb1 c2⟩ | exact ⟨c0, c1, c2⟩) (first | (go_at_call 26; refine (week_first y _ h1 (by omega)).mono ?_; rintro e w2 ⟨rfl, rfl⟩) | (go_at_call 44; refine (date_of_some _ _ ?_ ?_ ?_).mono ?_; (exact (HA.out.alloc _).alloc _); (omega); (omega); rintro e w1 ⟨⟨a1, a2, a3, rfl⟩, hb1⟩; have r0 : w1.cell? ⟨w.heap.size + 1, 0, none⟩ = some (.int .i64 0) := carry hb1 (by go_simp); have r1 : w1.cell? ⟨w.heap.size + 1, 1, none⟩ = some (.int .i64 0) := carry hb1 (by go_simp); have r2 : w1.cell? ⟨w.heap.size + 1, 2, none⟩ = some (.int .i64 0) := carry hb1 (by go_simp); have hfz := (bcell hb1).2; have hz := lt_of_cell r0))
  go_wp2_with fail
  exact bodyPost_ret (v := .tuple #[.agg #[.int .i64 a1, .int .i64 a2, .int .i64 a3], .nilIface]) (by simp [results, Tryd.results35, go_sem, r0, r1, r2, hz]) rfl ⟨⟨_, _, _, rfl⟩, (by (repeat (first | with_reducible exact Below.refl _ _ | with_reducible refine bel_set ?_ ?_ | with_reducible refine bel_alloc ?_ ?_ | with_reducible refine Below.drew ?_ | with_reducible refine bel_drewN _ ?_ | with_reducible refine bel_call ?_ (by assumption) ?_)); all_goals (first | (simp; done) | omega | (simp; omega)))⟩
end Go.Proofs.YtbbafdhgoekdiaaDoor
