/- Contracts of the functions of package week. -/
import Derived.Test.YtbbafdhgoekdiaaDoorDateNumber
import Derived.Test.YtbbafdhgoekdiaaDoorWeekPlain
namespace Go.Proofs.YtbbafdhgoekdiaaDoor
open Go.RowKit

theorem week_first (y : Int) (w : World) (h1 : 1 ≤ y) (h2 : y ≤ 10000) : Calls Tryd.prog 26 #[.int .i64 y] w fun e w' => e = .returned (.int .i64 (firstV y)) ∧ w = w' := by
  have hy := yearV_bd y h1 h2
  have hv : yearV y = 365 * (y - 1) + (y - 1) / 4 - (y - 1) / 100 + (y - 1) / 400 := rfl
  have hf : firstV y = (yearV y + 3) - (yearV y + 3) % 7 := rfl
  rw [hv] at hy hf
  have HF := Lib.hid hf
  clear hf hv
  obtain ⟨q1, q2⟩ := hy
  go_enter Tryd.func26, Tryd.ntmps26
  go_wp2_with fail
  go_ret
  exact ⟨by rw [HF.out]; rfl, rfl⟩

theorem week_weeks_no (y : Int) (w : World) (h : ¬ (1 ≤ y ∧ y ≤ 9999)) : Calls Tryd.prog 12 #[.int .i64 y] w fun e w' => e = .returned (.tuple #[.int .i64 0, errV 1]) ∧ w = w' := by
  go_enter Tryd.func12, Tryd.ntmps12
  go_wp2_with fail
  all_goals go_ret2
  all_goals exact ⟨rfl, rfl⟩

theorem week_weeks_ok (y : Int) (w : World) (h1 : 1 ≤ y) (h2 : y ≤ 9999) : Calls Tryd.prog 12 #[.int .i64 y] w fun e w' => e = .returned (.tuple #[.int .i64 (weeksV y), .nilIface]) ∧ w = w' := by
  have b1 := firstV_bd y h1 (by omega)
  have b2 := firstV_bd (y + 1) (by omega) (by omega)
  have hw : weeksV y = (firstV (y + 1) - firstV y) / 7 := rfl
  have hp : 0 ≤ firstV (y + 1) - firstV y := by have := weeksV_bd y h1; rw [hw] at this; omega
  have HW := Lib.hid hw
  clear hw
  go_enter Tryd.func12, Tryd.ntmps12
  go_wp2_with fail
  refine (week_first _ _ (by omega) (by omega)).mono ?_
  rintro e w' ⟨rfl, rfl⟩
  go_wp2_with fail
  refine (week_first _ _ (by omega) (by omega)).mono ?_
  rintro e w' ⟨rfl, rfl⟩
  go_wp2_with fail
  go_ret2
  exact ⟨by rw [HW.out]; rfl, rfl⟩

abbrev weekV (y k d : Int) : Value := .agg #[.int .i64 y, .int .i64 k, .int .i64 d]

theorem week_of_no (y m d : Int) (w : World) (hA : Ahead w) (h : ¬ dateOk y m d) :
    Calls Tryd.prog 13 #[dateV y m d] w fun e w' => e = .returned (.tuple #[weekV 0 0 0, errV 1]) ∧ Below w.heap.size w w' := by
  have H := Lib.hid h
  have HA := Lib.hid hA
  clear h hA
  go_enter Tryd.func13, Tryd.ntmps13
  go_wp2_with fail
  refine (date_number_no y m d _ ((HA.out.alloc _).alloc _) H.out).mono ?_
  rintro e w1 ⟨rfl, hb⟩
  obtain ⟨hc, hf⟩ := bcell hb
  have hz : w.heap.size + 1 < w1.heap.size := by have := hb.size; simp at this; omega
  go_wp2_with fail
  exact bodyPost_ret (v := .tuple #[weekV 0 0 0, errV 1]) (by simp [results, Tryd.results13, go_sem, hc, hz]) rfl ⟨rfl, (by (repeat (first | with_reducible exact Below.refl _ _ | with_reducible refine bel_set ?_ ?_ | with_reducible refine bel_alloc ?_ ?_ | with_reducible refine Below.drew ?_ | with_reducible refine bel_drewN _ ?_ | with_reducible refine bel_call ?_ (by assumption) ?_)); all_goals (first | (simp; done) | omega | (simp; omega)))⟩

set_option maxHeartbeats 1000000 in
theorem week_of_ok (y m d : Int) (w : World) (hA : Ahead w) (h : dateOk y m d) :
    Calls Tryd.prog 13 #[dateV y m d] w fun e w' => e = .returned (.tuple #[weekV (wkY y (numV y m d)) (wkW y (numV y m d)) (wkD (numV y m d)), .nilIface]) ∧ Below w.heap.size w w' := by
  have hbd := numV_bd y m d h
  obtain ⟨k1, k2, k3, k4, k5⟩ := wkY_facts y m d h
  have hy0 := yearV_bd y h.1 (by have := h.2.1; omega)
  have hy1 := yearV_bd (y + 1) (by have := h.1; omega) (by have := h.2.1; omega)
  have a1 := h.1
  have a2 := h.2.1
  have H := Lib.hid h
  have HA := Lib.hid hA
  clear h hA
  have hwW : wkW y (numV y m d) = (numV y m d - firstV (wkY y (numV y m d))) / 7 + 1 := rfl
  have hwD : wkD (numV y m d) = numV y m d % 7 + 1 := rfl
  have HN := date_number_ok y m d
  generalize hnn : numV y m d = n at *
  generalize wkY y n = z at *
  generalize wkW y n = zw at *
  generalize wkD n = zd at *
  have HNH := Lib.hid HN
  have HW := Lib.hid hwW
  have HD := Lib.hid hwD
  have K5 := Lib.hid k5
  clear HN hwW hwD k5 hnn
  have fz := firstV_bd z k1 (by omega)
  go_enter Tryd.func13, Tryd.ntmps13
  go_wp2_with fail
  refine (HNH.out _ ((HA.out.alloc _).alloc _) H.out).mono ?_
  rintro e w1 ⟨rfl, hb⟩
  have c0 : w1.cell? ⟨w.heap.size, 0, none⟩ = some (.int .i64 y) := carry hb (by go_simp)
  have r0 : w1.cell? ⟨w.heap.size + 1, 0, none⟩ = some (.int .i64 0) := carry hb (by go_simp)
  have r1 : w1.cell? ⟨w.heap.size + 1, 1, none⟩ = some (.int .i64 0) := carry hb (by go_simp)
  have r2 : w1.cell? ⟨w.heap.size + 1, 2, none⟩ = some (.int .i64 0) := carry hb (by go_simp)
  obtain ⟨hc, hf⟩ := bcell hb
  clear hc
  have hz := lt_of_cell r0
  go_wp2_with fail
  go_loop [6] (fun t => ∃ x : Int, z ≤ x ∧ x ≤ y + 1 ∧ t = .int .i64 x) (fun t => (intOf t).toNat)
  case atStart => exact ⟨y + 1, by omega, by omega, rfl⟩
  case round =>
    obtain ⟨x, hx1, hx2, rfl⟩ := hrel
    have fx := firstV_bd x (by omega) (by omega)
    by_cases hlt : z < x
    · have hgt := K5.out x hlt hx2
      go_wp2_with fail
      refine (week_first x _ (by omega) (by omega)).mono ?_
      rintro e w' ⟨rfl, rfl⟩
      go_wp2_with fail
      go_round
      case rel => exact ⟨x - 1, by omega, by omega, rfl⟩
      case measure => simp [intOf]; omega
    · obtain rfl : x = z := by omega
      go_wp2_with fail
      refine (week_first x _ (by omega) (by omega)).mono ?_
      rintro e w' ⟨rfl, rfl⟩
      go_wp2_with fail
      refine (week_first x _ (by omega) (by omega)).mono ?_
      rintro e w' ⟨rfl, rfl⟩
      go_wp2_with fail
      exact bodyPost_ret (v := .tuple #[weekV x ((n - firstV x) / 7 + 1) (n % 7 + 1), .nilIface]) (by simp [results, Tryd.results13, go_sem, r0, r1, r2, hz]) rfl ⟨by rw [HW.out, HD.out], (by (repeat (first | with_reducible exact Below.refl _ _ | with_reducible refine bel_set ?_ ?_ | with_reducible refine bel_alloc ?_ ?_ | with_reducible refine Below.drew ?_ | with_reducible refine bel_drewN _ ?_ | with_reducible refine bel_call ?_ (by assumption) ?_)); all_goals (first | (simp; done) | omega | (simp; omega)))⟩

end Go.Proofs.YtbbafdhgoekdiaaDoor
