/- WeekLong: the law's walk. -/
import Derived.Test.YtbbafdhgoekdiaaDoorWeek
namespace Go.Proofs.YtbbafdhgoekdiaaDoor
open Go.RowKit

set_option maxHeartbeats 1000000 in
theorem weekLong_no (y : Int) (w : World) (hA : Ahead w) (h : ¬ (1 ≤ y ∧ y ≤ 9999)) :
    Calls Tryd.prog 4 #[.int .i64 y] w fun e w' => e = .returned (.bool true) ∧ Below w.heap.size w w' := by
  have HA := Lib.hid hA
  clear hA
  have h' : ¬ dateOk y 1 1 := fun h' => h ⟨h'.1, h'.2.1⟩
  have H1 := Lib.hid h'
  have H := Lib.hid h
  clear h'
  go_enter Tryd.func4, Tryd.ntmps4
  go_wp2_with fail
  refine (week_weeks_no y _ H.out).mono ?_
  rintro e w' ⟨rfl, rfl⟩
  go_wp2_with fail
  refine (week_of_no y 1 1 _ HA.out H1.out).mono ?_
  rintro e w1 ⟨rfl, hb1⟩
  go_wp2_with fail
  refine (week_weeks_ok 2020 _ (by omega) (by omega)).mono ?_
  rintro e w' ⟨rfl, rfl⟩
  rw [show weeksV 2020 = 53 by decide]
  have s1 := hb1.size
  go_wp2_with fail
  all_goals go_ret
  all_goals exact ⟨by first | rfl | exact ret_bool (by simp; omega), (by (repeat (first | with_reducible exact Below.refl _ _ | with_reducible refine bel_set ?_ ?_ | with_reducible refine bel_alloc ?_ ?_ | with_reducible refine Below.drew ?_ | with_reducible refine bel_drewN _ ?_ | with_reducible refine bel_call ?_ (by assumption) ?_)); all_goals (first | (simp; done) | omega | (simp; omega)))⟩

set_option maxHeartbeats 1000000 in
theorem weekLong_leap (y dd : Int) (w : World) (hA : Ahead w) (h1 : 1 ≤ y) (h2 : y ≤ 9999) (hl : dateOk y 2 29) (H1 : Hid (dateOk y 1 1)) (HD : Hid (wkD (yearV y) = dd)) (hk : weeksV y = 52 ∨ weeksV y = 53) (H53 : Hid (weeksV y = 53 ↔ (dd = 4 ∨ dd = 3))) :
    Calls Tryd.prog 4 #[.int .i64 y] w fun e w' => e = .returned (.bool true) ∧ Below w.heap.size w w' := by
  have HA := Lib.hid hA
  have HL := Lib.hid hl
  clear hA hl
  go_enter Tryd.func4, Tryd.ntmps4
  go_wp2_with fail
  refine (week_weeks_ok y _ h1 h2).mono ?_
  rintro e w' ⟨rfl, rfl⟩
  generalize weeksV y = k at *
  go_wp2_with fail
  refine (week_of_ok y 1 1 _ HA.out H1.out).mono ?_
  rintro e w1 ⟨rfl, hb1⟩
  have HA1 := Lib.hid (HA.out.below hb1)
  rw [numV_first]
  generalize wkY y (yearV y) = zy
  generalize wkW y (yearV y) = zw
  rw [HD.out]
  go_wp2_with fail
  refine (week_weeks_ok 2020 _ (by omega) (by omega)).mono ?_
  rintro e w' ⟨rfl, rfl⟩
  rw [show weeksV 2020 = 53 by decide]
  have HA2 := Lib.hid (HA1.out.alloc (.cells #[.int .i64 zy, .int .i64 zw, .int .i64 dd] 32))
  go_wp2_with fail
  refine (date_check_ok y 2 29 _ HA2.out HL.out).mono ?_
  rintro e w2 ⟨rfl, hb2⟩
  have q2 : w2.cell? ⟨w1.heap.size, 2, none⟩ = some (.int .i64 dd) := carry hb2 (by go_simp)
  have s1 := hb1.size
  have hf := H53.out
  clear H53
  rcases hk with rfl | rfl
  · have f1 : dd ≠ 4 ∧ dd ≠ 3 := by omega
    have f2 : (dd == 4) = false := by simp [f1.1]
    have f3 : (dd == 3) = false := by simp [f1.2]
    clear hf f1
    go_wp2_with fail
    all_goals go_ret
    all_goals exact ⟨by first | rfl | exact ret_bool (by simp; done), (by (repeat (first | with_reducible exact Below.refl _ _ | with_reducible refine bel_set ?_ ?_ | with_reducible refine bel_alloc ?_ ?_ | with_reducible refine Below.drew ?_ | with_reducible refine bel_drewN _ ?_ | with_reducible refine bel_call ?_ (by assumption) ?_)); all_goals (first | (simp; done) | omega | (simp; omega)))⟩
  · rcases (show dd = 4 ∨ dd = 3 by omega) with rfl | rfl
    · clear hf
      go_wp2_with fail
      all_goals go_ret
      all_goals exact ⟨by first | rfl | exact ret_bool (by simp; done), (by (repeat (first | with_reducible exact Below.refl _ _ | with_reducible refine bel_set ?_ ?_ | with_reducible refine bel_alloc ?_ ?_ | with_reducible refine Below.drew ?_ | with_reducible refine bel_drewN _ ?_ | with_reducible refine bel_call ?_ (by assumption) ?_)); all_goals (first | (simp; done) | omega | (simp; omega)))⟩
    · clear hf
      go_wp2_with fail
      all_goals go_ret
      all_goals exact ⟨by first | rfl | exact ret_bool (by simp; done), (by (repeat (first | with_reducible exact Below.refl _ _ | with_reducible refine bel_set ?_ ?_ | with_reducible refine bel_alloc ?_ ?_ | with_reducible refine Below.drew ?_ | with_reducible refine bel_drewN _ ?_ | with_reducible refine bel_call ?_ (by assumption) ?_)); all_goals (first | (simp; done) | omega | (simp; omega)))⟩

set_option maxHeartbeats 1000000 in
theorem weekLong_common (y dd : Int) (w : World) (hA : Ahead w) (h1 : 1 ≤ y) (h2 : y ≤ 9999) (hl : ¬ dateOk y 2 29) (H1 : Hid (dateOk y 1 1)) (HD : Hid (wkD (yearV y) = dd)) (hk : weeksV y = 52 ∨ weeksV y = 53) (H53 : Hid (weeksV y = 53 ↔ dd = 4)) :
    Calls Tryd.prog 4 #[.int .i64 y] w fun e w' => e = .returned (.bool true) ∧ Below w.heap.size w w' := by
  have HA := Lib.hid hA
  have HL := Lib.hid hl
  clear hA hl
  go_enter Tryd.func4, Tryd.ntmps4
  go_wp2_with fail
  refine (week_weeks_ok y _ h1 h2).mono ?_
  rintro e w' ⟨rfl, rfl⟩
  generalize weeksV y = k at *
  go_wp2_with fail
  refine (week_of_ok y 1 1 _ HA.out H1.out).mono ?_
  rintro e w1 ⟨rfl, hb1⟩
  have HA1 := Lib.hid (HA.out.below hb1)
  rw [numV_first]
  generalize wkY y (yearV y) = zy
  generalize wkW y (yearV y) = zw
  rw [HD.out]
  go_wp2_with fail
  refine (week_weeks_ok 2020 _ (by omega) (by omega)).mono ?_
  rintro e w' ⟨rfl, rfl⟩
  rw [show weeksV 2020 = 53 by decide]
  have HA2 := Lib.hid (HA1.out.alloc (.cells #[.int .i64 zy, .int .i64 zw, .int .i64 dd] 32))
  go_wp2_with fail
  refine (date_check_no y 2 29 _ HA2.out HL.out).mono ?_
  rintro e w2 ⟨rfl, hb2⟩
  have q2 : w2.cell? ⟨w1.heap.size, 2, none⟩ = some (.int .i64 dd) := carry hb2 (by go_simp)
  have s1 := hb1.size
  have hf := H53.out
  clear H53
  rcases hk with rfl | rfl
  · have f1 : dd ≠ 4 := by omega
    have f2 : (dd == 4) = false := by simp [f1]
    clear hf f1
    go_wp2_with fail
    all_goals go_ret
    all_goals exact ⟨by first | rfl | exact ret_bool (by simp; done), (by (repeat (first | with_reducible exact Below.refl _ _ | with_reducible refine bel_set ?_ ?_ | with_reducible refine bel_alloc ?_ ?_ | with_reducible refine Below.drew ?_ | with_reducible refine bel_drewN _ ?_ | with_reducible refine bel_call ?_ (by assumption) ?_)); all_goals (first | (simp; done) | omega | (simp; omega)))⟩
  · obtain rfl : dd = 4 := by omega
    clear hf
    go_wp2_with fail
    all_goals go_ret
    all_goals exact ⟨by first | rfl | exact ret_bool (by simp; done), (by (repeat (first | with_reducible exact Below.refl _ _ | with_reducible refine bel_set ?_ ?_ | with_reducible refine bel_alloc ?_ ?_ | with_reducible refine Below.drew ?_ | with_reducible refine bel_drewN _ ?_ | with_reducible refine bel_call ?_ (by assumption) ?_)); all_goals (first | (simp; done) | omega | (simp; omega)))⟩

theorem weekLong_walk (y : Int) (w : World) (hA : Ahead w) :
    Calls Tryd.prog 4 #[.int .i64 y] w fun e w' => e = .returned (.bool true) ∧ Below w.heap.size w w' := by
  by_cases h : 1 ≤ y ∧ y ≤ 9999
  · have h53 := weeksV_53 y h.1
    have e : wkD (yearV y) = yearV y % 7 + 1 := rfl
    rw [← e] at h53
    by_cases hl : leapB y = true
    · exact weekLong_leap y _ w hA h.1 h.2 ((dateOk_29 y h.1 h.2).2 hl) (Lib.hid (dateOk_first y h.1 h.2)) (Lib.hid rfl) (weeksV_bd y h.1) (Lib.hid (by simpa [hl] using h53))
    · exact weekLong_common y _ w hA h.1 h.2 (fun h' => hl ((dateOk_29 y h.1 h.2).1 h')) (Lib.hid (dateOk_first y h.1 h.2)) (Lib.hid rfl) (weeksV_bd y h.1) (Lib.hid (by simpa [hl] using h53))
  · exact weekLong_no y w hA h

end Go.Proofs.YtbbafdhgoekdiaaDoor
