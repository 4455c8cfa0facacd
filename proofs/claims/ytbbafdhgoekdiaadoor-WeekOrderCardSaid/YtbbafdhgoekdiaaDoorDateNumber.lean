/- Contracts of date.Check whole, date.Number. -/
import Derived.Test.YtbbafdhgoekdiaaDoorDate
namespace Go.Proofs.YtbbafdhgoekdiaaDoor
open Go.RowKit

/-- What an Errno's place holds. -/
theorem date_check_no (y m d : Int) (w : World) (hA : Ahead w) (h : ¬ dateOk y m d) :
    Calls Tryd.prog 11 #[dateV y m d] w fun e w' => e = .returned (errV 1) ∧ Below w.heap.size w w' := by
  by_cases h1 : y < 1
  · exact date_check_y0 y m d w h1
  by_cases h2 : 9999 < y
  · exact date_check_y1 y m d w (by omega) h2
  by_cases h3 : m < 1
  · exact date_check_m0 y m d w (by omega) (by omega) h3
  by_cases h4 : 12 < m
  · exact date_check_m1 y m d w (by omega) (by omega) (by omega) h4
  by_cases h5 : d < 1
  · exact date_check_d0 y m d w (by omega) (by omega) (by omega) (by omega) h5
  · exact date_check_day y m d w hA (by omega) (by omega) (by omega) (by omega) (by omega) (by unfold dateOk at h; omega)

theorem date_number_no (y m d : Int) (w : World) (hA : Ahead w) (h : ¬ dateOk y m d) :
    Calls Tryd.prog 10 #[dateV y m d] w fun e w' => e = .returned (.tuple #[.int .i64 0, errV 1]) ∧ Below w.heap.size w w' := by
  have H := Lib.hid h
  have HA := Lib.hid hA
  clear h hA
  go_enter Tryd.func10, Tryd.ntmps10
  go_wp2_with fail
  refine (date_check_no y m d _ (HA.out.alloc _) H.out).mono ?_
  rintro e w1 ⟨rfl, hb⟩
  go_wp2_with fail
  go_ret2
  exact ⟨rfl, (by (repeat (first | with_reducible exact Below.refl _ _ | with_reducible refine bel_set ?_ ?_ | with_reducible refine bel_alloc ?_ ?_ | with_reducible refine Below.drew ?_ | with_reducible refine bel_drewN _ ?_ | with_reducible refine bel_call ?_ (by assumption) ?_)); all_goals (first | (simp; done) | omega | (simp; omega)))⟩

set_option maxHeartbeats 1000000 in
set_option maxRecDepth 100000 in
theorem date_number_ok (y m d : Int) (w : World) (hA : Ahead w) (h : dateOk y m d) :
    Calls Tryd.prog 10 #[dateV y m d] w fun e w' => e = .returned (.tuple #[.int .i64 (numV y m d), .nilIface]) ∧ Below w.heap.size w w' := by
  have H := Lib.hid h
  have HA := Lib.hid hA
  clear hA
  obtain ⟨a1, a2, a3, a4, a5, a6⟩ := h
  have b1 := befV_bd y (m + 1)
  have b2 := befV_bd y m
  have b3 := yearV_bd y a1 (by omega)
  have e1 : IntKind.i64.wrap (yearV y + befV y m) = yearV y + befV y m := IntWalk.i64_in _ (by omega)
  have e2 : IntKind.i64.wrap (yearV y + befV y m + d) = yearV y + befV y m + d := IntWalk.i64_in _ (by omega)
  have e3 : IntKind.i64.wrap (yearV y + befV y m + d - 1) = yearV y + befV y m + d - 1 := IntWalk.i64_in _ (by omega)
  go_enter Tryd.func10, Tryd.ntmps10
  go_wp2_with fail
  refine (date_check_ok y m d _ (HA.out.alloc _) H.out).mono ?_
  rintro e w1 ⟨rfl, hb⟩
  have c0 : w1.cell? ⟨w.heap.size, 0, none⟩ = some (.int .i64 y) := carry hb (by go_simp)
  have c1 : w1.cell? ⟨w.heap.size, 1, none⟩ = some (.int .i64 m) := carry hb (by go_simp)
  have c2 : w1.cell? ⟨w.heap.size, 2, none⟩ = some (.int .i64 d) := carry hb (by go_simp)
  have HA1 := Lib.hid ((HA.out.alloc (.cells #[.int .i64 y, .int .i64 m, .int .i64 d] 27)).below hb)
  clear HA
  go_wp2_with fail
  go_quiet ((first | (go_at_call 25; exact Calls.quiet_left (date_before _ _ _ (HA1.out.drewN _) (by omega) (by omega) (by omega))) | (go_at_call 24; exact Calls.quiet_left (date_year _ _ (by omega) (by omega)))))
  go_wp2_with fail
  go_ret2
  exact ⟨rfl, (by (repeat (first | with_reducible exact Below.refl _ _ | with_reducible refine bel_set ?_ ?_ | with_reducible refine bel_alloc ?_ ?_ | with_reducible refine Below.drew ?_ | with_reducible refine bel_drewN _ ?_ | with_reducible refine bel_call ?_ (by assumption) ?_)); all_goals (first | (simp; done) | omega | (simp; omega)))⟩

end Go.Proofs.YtbbafdhgoekdiaaDoor
