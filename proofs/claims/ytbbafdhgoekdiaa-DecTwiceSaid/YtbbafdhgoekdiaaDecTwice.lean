/- DecTwice: rounding (down, floor, ceil) first to more digits and then to fewer is as at once: the law's walk. -/
import Derived.Test.YtbbafdhgoekdiaaDecAdd
namespace Go.Proofs.Ytbbafdhgoekdiaa
open Go.RowKit

theorem dec_fact (w : World) : Calls Try.prog 19 #[decV 5 1, decV 1 0] w fun e w' => e = .returned (.tuple #[decV 15 1, .nilIface]) ∧ Below w.heap.size w w' := by
  refine (dec_add_gt 5 1 1 0 w (by unfold decOk; omega) (by unfold decOk; omega) (by omega)).mono ?_
  rintro e w' ⟨⟨h1, _⟩, hb⟩
  have t : ten ((1 : Int) - 0).toNat = 10 := rfl
  rw [t] at h1
  exact ⟨h1 (by omega), hb⟩

set_option maxHeartbeats 1000000 in
theorem decTwice_main (c s scale more way : Int) (w : World) (hx : Hid (rndOk c s scale way)) (hy : Hid (rndOk c s more way)) (hm : scale ≤ more) (hw : way ≤ 3) (hz : Hid (rndOk (rnd c s more way) more scale way ∧ rnd (rnd c s more way) more scale way = rnd c s scale way)) :
    Calls Try.prog 7 #[decV c s, .int .i64 scale, .int .i64 more, .int .i64 way] w fun e w' => e = .returned (.bool true) ∧ Below w.heap.size w w' := by
  go_enter Try.func7, Try.ntmps7
  go_wp2_with fail
  refine (dec_fact _).mono ?_
  rintro e w1 ⟨rfl, hb1⟩
  have d0_w1 : w1.cell? ⟨w.heap.size, 0, none⟩ = some (.int .i64 c) := carry hb1 (by go_simp)
  have d1_w1 : w1.cell? ⟨w.heap.size, 1, none⟩ = some (.int .i64 s) := carry hb1 (by go_simp)
  have qd0_w1 := lt_of_cell d0_w1
  have z1 : w.heap.size < w1.heap.size := by have := hb1.size; first | omega | (simp at this; omega)
  go_wp2_with fail
  refine (dec_round c s scale way _).mono ?_
  rintro e w2 ⟨hR2, hb2⟩
  have d0_w2 : w2.cell? ⟨w.heap.size, 0, none⟩ = some (.int .i64 c) := carry hb2 (by go_simp)
  have d1_w2 : w2.cell? ⟨w.heap.size, 1, none⟩ = some (.int .i64 s) := carry hb2 (by go_simp)
  have qd0_w2 := lt_of_cell d0_w2
  have a0_w2 : w2.cell? ⟨w1.heap.size, 0, none⟩ = some (.int .i64 15) := carry hb2 (by go_simp)
  have a1_w2 : w2.cell? ⟨w1.heap.size, 1, none⟩ = some (.int .i64 1) := carry hb2 (by go_simp)
  have qa0_w2 := lt_of_cell a0_w2
  have z2 : w1.heap.size < w2.heap.size := by have := hb2.size; first | omega | (simp at this; omega)
  clear d0_w1 d1_w1
  obtain rfl := hR2.1 hx.out
  clear hR2
  go_wp2_with fail
  refine (dec_round c s more way _).mono ?_
  rintro e w3 ⟨hR3, hb3⟩
  have d0_w3 : w3.cell? ⟨w.heap.size, 0, none⟩ = some (.int .i64 c) := carry hb3 (by go_simp)
  have d1_w3 : w3.cell? ⟨w.heap.size, 1, none⟩ = some (.int .i64 s) := carry hb3 (by go_simp)
  have qd0_w3 := lt_of_cell d0_w3
  have a0_w3 : w3.cell? ⟨w1.heap.size, 0, none⟩ = some (.int .i64 15) := carry hb3 (by go_simp)
  have a1_w3 : w3.cell? ⟨w1.heap.size, 1, none⟩ = some (.int .i64 1) := carry hb3 (by go_simp)
  have qa0_w3 := lt_of_cell a0_w3
  have x0_w3 : w3.cell? ⟨w2.heap.size, 0, none⟩ = some (.int .i64 (rnd c s scale way)) := carry hb3 (by go_simp)
  have x1_w3 : w3.cell? ⟨w2.heap.size, 1, none⟩ = some (.int .i64 scale) := carry hb3 (by go_simp)
  have qx0_w3 := lt_of_cell x0_w3
  have z3 : w2.heap.size < w3.heap.size := by have := hb3.size; first | omega | (simp at this; omega)
  clear d0_w2 d1_w2 a0_w2 a1_w2
  obtain rfl := hR3.1 hy.out
  clear hR3
  go_wp2_with fail
  refine (dec_round (rnd c s more way) more scale way _).mono ?_
  rintro e w4 ⟨hR4, hb4⟩
  have d0_w4 : w4.cell? ⟨w.heap.size, 0, none⟩ = some (.int .i64 c) := carry hb4 (by go_simp)
  have d1_w4 : w4.cell? ⟨w.heap.size, 1, none⟩ = some (.int .i64 s) := carry hb4 (by go_simp)
  have qd0_w4 := lt_of_cell d0_w4
  have a0_w4 : w4.cell? ⟨w1.heap.size, 0, none⟩ = some (.int .i64 15) := carry hb4 (by go_simp)
  have a1_w4 : w4.cell? ⟨w1.heap.size, 1, none⟩ = some (.int .i64 1) := carry hb4 (by go_simp)
  have qa0_w4 := lt_of_cell a0_w4
  have x0_w4 : w4.cell? ⟨w2.heap.size, 0, none⟩ = some (.int .i64 (rnd c s scale way)) := carry hb4 (by go_simp)
  have x1_w4 : w4.cell? ⟨w2.heap.size, 1, none⟩ = some (.int .i64 scale) := carry hb4 (by go_simp)
  have qx0_w4 := lt_of_cell x0_w4
  have y0_w4 : w4.cell? ⟨w3.heap.size, 0, none⟩ = some (.int .i64 (rnd c s more way)) := carry hb4 (by go_simp)
  have y1_w4 : w4.cell? ⟨w3.heap.size, 1, none⟩ = some (.int .i64 more) := carry hb4 (by go_simp)
  have qy0_w4 := lt_of_cell y0_w4
  have z4 : w3.heap.size < w4.heap.size := by have := hb4.size; first | omega | (simp at this; omega)
  clear d0_w3 d1_w3 a0_w3 a1_w3 x0_w3 x1_w3
  obtain rfl := hR4.1 hz.out.1
  rw [hz.out.2]
  clear hR4
  go_wp2_with fail
  go_ret
  exact ⟨rfl, (by (repeat (first | with_reducible exact Below.refl _ _ | with_reducible refine bel_set ?_ ?_ | with_reducible refine bel_alloc ?_ ?_ | with_reducible refine Below.drew ?_ | with_reducible refine bel_drewN _ ?_ | with_reducible refine bel_call ?_ (by assumption) ?_)); all_goals (first | (simp; done) | omega | (simp; omega)))⟩

set_option maxHeartbeats 1000000 in
theorem decTwice_small (c s scale more way : Int) (w : World) (hx : Hid (rndOk c s scale way)) (hy : Hid (rndOk c s more way)) (hm : more < scale ∨ scale ≤ more ∧ 3 < way) :
    Calls Try.prog 7 #[decV c s, .int .i64 scale, .int .i64 more, .int .i64 way] w fun e w' => e = .returned (.bool true) ∧ Below w.heap.size w w' := by
  rcases hm with hm | ⟨hm, hw⟩
  all_goals
    go_enter Try.func7, Try.ntmps7
    go_wp2_with fail
    refine (dec_fact _).mono ?_
    rintro e w1 ⟨rfl, hb1⟩
    have d0_w1 : w1.cell? ⟨w.heap.size, 0, none⟩ = some (.int .i64 c) := carry hb1 (by go_simp)
    have d1_w1 : w1.cell? ⟨w.heap.size, 1, none⟩ = some (.int .i64 s) := carry hb1 (by go_simp)
    have qd0_w1 := lt_of_cell d0_w1
    have z1 : w.heap.size < w1.heap.size := by have := hb1.size; first | omega | (simp at this; omega)
    go_wp2_with fail
    refine (dec_round c s scale way _).mono ?_
    rintro e w2 ⟨hR2, hb2⟩
    have d0_w2 : w2.cell? ⟨w.heap.size, 0, none⟩ = some (.int .i64 c) := carry hb2 (by go_simp)
    have d1_w2 : w2.cell? ⟨w.heap.size, 1, none⟩ = some (.int .i64 s) := carry hb2 (by go_simp)
    have qd0_w2 := lt_of_cell d0_w2
    have a0_w2 : w2.cell? ⟨w1.heap.size, 0, none⟩ = some (.int .i64 15) := carry hb2 (by go_simp)
    have a1_w2 : w2.cell? ⟨w1.heap.size, 1, none⟩ = some (.int .i64 1) := carry hb2 (by go_simp)
    have qa0_w2 := lt_of_cell a0_w2
    have z2 : w1.heap.size < w2.heap.size := by have := hb2.size; first | omega | (simp at this; omega)
    clear d0_w1 d1_w1
    obtain rfl := hR2.1 hx.out
    clear hR2
    go_wp2_with fail
    refine (dec_round c s more way _).mono ?_
    rintro e w3 ⟨hR3, hb3⟩
    have d0_w3 : w3.cell? ⟨w.heap.size, 0, none⟩ = some (.int .i64 c) := carry hb3 (by go_simp)
    have d1_w3 : w3.cell? ⟨w.heap.size, 1, none⟩ = some (.int .i64 s) := carry hb3 (by go_simp)
    have qd0_w3 := lt_of_cell d0_w3
    have a0_w3 : w3.cell? ⟨w1.heap.size, 0, none⟩ = some (.int .i64 15) := carry hb3 (by go_simp)
    have a1_w3 : w3.cell? ⟨w1.heap.size, 1, none⟩ = some (.int .i64 1) := carry hb3 (by go_simp)
    have qa0_w3 := lt_of_cell a0_w3
    have x0_w3 : w3.cell? ⟨w2.heap.size, 0, none⟩ = some (.int .i64 (rnd c s scale way)) := carry hb3 (by go_simp)
    have x1_w3 : w3.cell? ⟨w2.heap.size, 1, none⟩ = some (.int .i64 scale) := carry hb3 (by go_simp)
    have qx0_w3 := lt_of_cell x0_w3
    have z3 : w2.heap.size < w3.heap.size := by have := hb3.size; first | omega | (simp at this; omega)
    clear d0_w2 d1_w2 a0_w2 a1_w2
    obtain rfl := hR3.1 hy.out
    clear hR3
    go_wp2_with fail
    go_ret
    exact ⟨rfl, (by (repeat (first | with_reducible exact Below.refl _ _ | with_reducible refine bel_set ?_ ?_ | with_reducible refine bel_alloc ?_ ?_ | with_reducible refine Below.drew ?_ | with_reducible refine bel_drewN _ ?_ | with_reducible refine bel_call ?_ (by assumption) ?_)); all_goals (first | (simp; done) | omega | (simp; omega)))⟩

set_option maxHeartbeats 1000000 in
theorem decTwice_noy (c s scale more way : Int) (w : World) (hx : Hid (rndOk c s scale way)) (hy : Hid (¬ rndOk c s more way)) :
    Calls Try.prog 7 #[decV c s, .int .i64 scale, .int .i64 more, .int .i64 way] w fun e w' => e = .returned (.bool true) ∧ Below w.heap.size w w' := by
  go_enter Try.func7, Try.ntmps7
  go_wp2_with fail
  refine (dec_fact _).mono ?_
  rintro e w1 ⟨rfl, hb1⟩
  have d0_w1 : w1.cell? ⟨w.heap.size, 0, none⟩ = some (.int .i64 c) := carry hb1 (by go_simp)
  have d1_w1 : w1.cell? ⟨w.heap.size, 1, none⟩ = some (.int .i64 s) := carry hb1 (by go_simp)
  have qd0_w1 := lt_of_cell d0_w1
  have z1 : w.heap.size < w1.heap.size := by have := hb1.size; first | omega | (simp at this; omega)
  go_wp2_with fail
  refine (dec_round c s scale way _).mono ?_
  rintro e w2 ⟨hR2, hb2⟩
  have d0_w2 : w2.cell? ⟨w.heap.size, 0, none⟩ = some (.int .i64 c) := carry hb2 (by go_simp)
  have d1_w2 : w2.cell? ⟨w.heap.size, 1, none⟩ = some (.int .i64 s) := carry hb2 (by go_simp)
  have qd0_w2 := lt_of_cell d0_w2
  have a0_w2 : w2.cell? ⟨w1.heap.size, 0, none⟩ = some (.int .i64 15) := carry hb2 (by go_simp)
  have a1_w2 : w2.cell? ⟨w1.heap.size, 1, none⟩ = some (.int .i64 1) := carry hb2 (by go_simp)
  have qa0_w2 := lt_of_cell a0_w2
  have z2 : w1.heap.size < w2.heap.size := by have := hb2.size; first | omega | (simp at this; omega)
  clear d0_w1 d1_w1
  obtain rfl := hR2.1 hx.out
  clear hR2
  go_wp2_with fail
  refine (dec_round c s more way _).mono ?_
  rintro e w3 ⟨hR3, hb3⟩
  have d0_w3 : w3.cell? ⟨w.heap.size, 0, none⟩ = some (.int .i64 c) := carry hb3 (by go_simp)
  have d1_w3 : w3.cell? ⟨w.heap.size, 1, none⟩ = some (.int .i64 s) := carry hb3 (by go_simp)
  have qd0_w3 := lt_of_cell d0_w3
  have a0_w3 : w3.cell? ⟨w1.heap.size, 0, none⟩ = some (.int .i64 15) := carry hb3 (by go_simp)
  have a1_w3 : w3.cell? ⟨w1.heap.size, 1, none⟩ = some (.int .i64 1) := carry hb3 (by go_simp)
  have qa0_w3 := lt_of_cell a0_w3
  have x0_w3 : w3.cell? ⟨w2.heap.size, 0, none⟩ = some (.int .i64 (rnd c s scale way)) := carry hb3 (by go_simp)
  have x1_w3 : w3.cell? ⟨w2.heap.size, 1, none⟩ = some (.int .i64 scale) := carry hb3 (by go_simp)
  have qx0_w3 := lt_of_cell x0_w3
  have z3 : w2.heap.size < w3.heap.size := by have := hb3.size; first | omega | (simp at this; omega)
  clear d0_w2 d1_w2 a0_w2 a1_w2
  obtain ⟨k2, rfl⟩ := hR3.2 hy.out
  clear hR3
  go_wp2_with fail
  go_ret
  exact ⟨rfl, (by (repeat (first | with_reducible exact Below.refl _ _ | with_reducible refine bel_set ?_ ?_ | with_reducible refine bel_alloc ?_ ?_ | with_reducible refine Below.drew ?_ | with_reducible refine bel_drewN _ ?_ | with_reducible refine bel_call ?_ (by assumption) ?_)); all_goals (first | (simp; done) | omega | (simp; omega)))⟩

set_option maxHeartbeats 1000000 in
theorem decTwice_nox (c s scale more way : Int) (w : World) (hx : Hid (¬ rndOk c s scale way)) (hy : Hid (rndOk c s more way)) :
    Calls Try.prog 7 #[decV c s, .int .i64 scale, .int .i64 more, .int .i64 way] w fun e w' => e = .returned (.bool true) ∧ Below w.heap.size w w' := by
  go_enter Try.func7, Try.ntmps7
  go_wp2_with fail
  refine (dec_fact _).mono ?_
  rintro e w1 ⟨rfl, hb1⟩
  have d0_w1 : w1.cell? ⟨w.heap.size, 0, none⟩ = some (.int .i64 c) := carry hb1 (by go_simp)
  have d1_w1 : w1.cell? ⟨w.heap.size, 1, none⟩ = some (.int .i64 s) := carry hb1 (by go_simp)
  have qd0_w1 := lt_of_cell d0_w1
  have z1 : w.heap.size < w1.heap.size := by have := hb1.size; first | omega | (simp at this; omega)
  go_wp2_with fail
  refine (dec_round c s scale way _).mono ?_
  rintro e w2 ⟨hR2, hb2⟩
  have d0_w2 : w2.cell? ⟨w.heap.size, 0, none⟩ = some (.int .i64 c) := carry hb2 (by go_simp)
  have d1_w2 : w2.cell? ⟨w.heap.size, 1, none⟩ = some (.int .i64 s) := carry hb2 (by go_simp)
  have qd0_w2 := lt_of_cell d0_w2
  have a0_w2 : w2.cell? ⟨w1.heap.size, 0, none⟩ = some (.int .i64 15) := carry hb2 (by go_simp)
  have a1_w2 : w2.cell? ⟨w1.heap.size, 1, none⟩ = some (.int .i64 1) := carry hb2 (by go_simp)
  have qa0_w2 := lt_of_cell a0_w2
  have z2 : w1.heap.size < w2.heap.size := by have := hb2.size; first | omega | (simp at this; omega)
  clear d0_w1 d1_w1
  obtain ⟨k1, rfl⟩ := hR2.2 hx.out
  clear hR2
  go_wp2_with fail
  refine (dec_round c s more way _).mono ?_
  rintro e w3 ⟨hR3, hb3⟩
  have d0_w3 : w3.cell? ⟨w.heap.size, 0, none⟩ = some (.int .i64 c) := carry hb3 (by go_simp)
  have d1_w3 : w3.cell? ⟨w.heap.size, 1, none⟩ = some (.int .i64 s) := carry hb3 (by go_simp)
  have qd0_w3 := lt_of_cell d0_w3
  have a0_w3 : w3.cell? ⟨w1.heap.size, 0, none⟩ = some (.int .i64 15) := carry hb3 (by go_simp)
  have a1_w3 : w3.cell? ⟨w1.heap.size, 1, none⟩ = some (.int .i64 1) := carry hb3 (by go_simp)
  have qa0_w3 := lt_of_cell a0_w3
  have x0_w3 : w3.cell? ⟨w2.heap.size, 0, none⟩ = some (.int .i64 0) := carry hb3 (by go_simp)
  have x1_w3 : w3.cell? ⟨w2.heap.size, 1, none⟩ = some (.int .i64 0) := carry hb3 (by go_simp)
  have qx0_w3 := lt_of_cell x0_w3
  have z3 : w2.heap.size < w3.heap.size := by have := hb3.size; first | omega | (simp at this; omega)
  clear d0_w2 d1_w2 a0_w2 a1_w2
  obtain rfl := hR3.1 hy.out
  clear hR3
  go_wp2_with fail
  go_ret
  exact ⟨rfl, (by (repeat (first | with_reducible exact Below.refl _ _ | with_reducible refine bel_set ?_ ?_ | with_reducible refine bel_alloc ?_ ?_ | with_reducible refine Below.drew ?_ | with_reducible refine bel_drewN _ ?_ | with_reducible refine bel_call ?_ (by assumption) ?_)); all_goals (first | (simp; done) | omega | (simp; omega)))⟩

set_option maxHeartbeats 1000000 in
theorem decTwice_noxy (c s scale more way : Int) (w : World) (hx : Hid (¬ rndOk c s scale way)) (hy : Hid (¬ rndOk c s more way)) :
    Calls Try.prog 7 #[decV c s, .int .i64 scale, .int .i64 more, .int .i64 way] w fun e w' => e = .returned (.bool true) ∧ Below w.heap.size w w' := by
  go_enter Try.func7, Try.ntmps7
  go_wp2_with fail
  refine (dec_fact _).mono ?_
  rintro e w1 ⟨rfl, hb1⟩
  have d0_w1 : w1.cell? ⟨w.heap.size, 0, none⟩ = some (.int .i64 c) := carry hb1 (by go_simp)
  have d1_w1 : w1.cell? ⟨w.heap.size, 1, none⟩ = some (.int .i64 s) := carry hb1 (by go_simp)
  have qd0_w1 := lt_of_cell d0_w1
  have z1 : w.heap.size < w1.heap.size := by have := hb1.size; first | omega | (simp at this; omega)
  go_wp2_with fail
  refine (dec_round c s scale way _).mono ?_
  rintro e w2 ⟨hR2, hb2⟩
  have d0_w2 : w2.cell? ⟨w.heap.size, 0, none⟩ = some (.int .i64 c) := carry hb2 (by go_simp)
  have d1_w2 : w2.cell? ⟨w.heap.size, 1, none⟩ = some (.int .i64 s) := carry hb2 (by go_simp)
  have qd0_w2 := lt_of_cell d0_w2
  have a0_w2 : w2.cell? ⟨w1.heap.size, 0, none⟩ = some (.int .i64 15) := carry hb2 (by go_simp)
  have a1_w2 : w2.cell? ⟨w1.heap.size, 1, none⟩ = some (.int .i64 1) := carry hb2 (by go_simp)
  have qa0_w2 := lt_of_cell a0_w2
  have z2 : w1.heap.size < w2.heap.size := by have := hb2.size; first | omega | (simp at this; omega)
  clear d0_w1 d1_w1
  obtain ⟨k1, rfl⟩ := hR2.2 hx.out
  clear hR2
  go_wp2_with fail
  refine (dec_round c s more way _).mono ?_
  rintro e w3 ⟨hR3, hb3⟩
  have d0_w3 : w3.cell? ⟨w.heap.size, 0, none⟩ = some (.int .i64 c) := carry hb3 (by go_simp)
  have d1_w3 : w3.cell? ⟨w.heap.size, 1, none⟩ = some (.int .i64 s) := carry hb3 (by go_simp)
  have qd0_w3 := lt_of_cell d0_w3
  have a0_w3 : w3.cell? ⟨w1.heap.size, 0, none⟩ = some (.int .i64 15) := carry hb3 (by go_simp)
  have a1_w3 : w3.cell? ⟨w1.heap.size, 1, none⟩ = some (.int .i64 1) := carry hb3 (by go_simp)
  have qa0_w3 := lt_of_cell a0_w3
  have x0_w3 : w3.cell? ⟨w2.heap.size, 0, none⟩ = some (.int .i64 0) := carry hb3 (by go_simp)
  have x1_w3 : w3.cell? ⟨w2.heap.size, 1, none⟩ = some (.int .i64 0) := carry hb3 (by go_simp)
  have qx0_w3 := lt_of_cell x0_w3
  have z3 : w2.heap.size < w3.heap.size := by have := hb3.size; first | omega | (simp at this; omega)
  clear d0_w2 d1_w2 a0_w2 a1_w2
  obtain ⟨k2, rfl⟩ := hR3.2 hy.out
  clear hR3
  go_wp2_with fail
  go_ret
  exact ⟨rfl, (by (repeat (first | with_reducible exact Below.refl _ _ | with_reducible refine bel_set ?_ ?_ | with_reducible refine bel_alloc ?_ ?_ | with_reducible refine Below.drew ?_ | with_reducible refine bel_drewN _ ?_ | with_reducible refine bel_call ?_ (by assumption) ?_)); all_goals (first | (simp; done) | omega | (simp; omega)))⟩

theorem decTwice_walk (c s scale more way : Int) (w : World) :
    Calls Try.prog 7 #[decV c s, .int .i64 scale, .int .i64 more, .int .i64 way] w fun e w' => e = .returned (.bool true) ∧ Below w.heap.size w w' := by
  by_cases hx : rndOk c s scale way
  · by_cases hy : rndOk c s more way
    · by_cases hm : scale ≤ more
      · by_cases hw : way ≤ 3
        · exact decTwice_main c s scale more way w (Lib.hid hx) (Lib.hid hy) hm hw (Lib.hid (twice c s scale more way hx hy hm hw))
        · exact decTwice_small c s scale more way w (Lib.hid hx) (Lib.hid hy) (.inr ⟨hm, by omega⟩)
      · exact decTwice_small c s scale more way w (Lib.hid hx) (Lib.hid hy) (.inl (by omega))
    · exact decTwice_noy c s scale more way w (Lib.hid hx) (Lib.hid hy)
  · by_cases hy : rndOk c s more way
    · exact decTwice_nox c s scale more way w (Lib.hid hx) (Lib.hid hy)
    · exact decTwice_noxy c s scale more way w (Lib.hid hx) (Lib.hid hy)

end Go.Proofs.Ytbbafdhgoekdiaa
