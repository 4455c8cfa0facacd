/- Contracts of the functions of package date. -/
import Derived.Test.YtbbafdhgoekdiaaDoorRows
import Derived.Test.YtbbafdhgoekdiaaDoorBase
import Derived.Test.YtbbafdhgoekdiaaDoorDatePlain
import Derived.WalkLawsBesides
namespace Go.Proofs.YtbbafdhgoekdiaaDoor
open Go.RowKit

/-- The table lies in the world. -/
def Ahead (w : World) : Prop := ∀ i, i < 13 → w.cell? ⟨1, i, none⟩ = some (.int .i64 (aheadN i))
theorem Ahead.drewN {w : World} (h : Ahead w) (n : Nat) : Ahead (w.drewN n) := h
theorem Ahead.alloc {w : World} (h : Ahead w) (o : Obj) : Ahead (w.alloc o) := fun i hi => by
  have := h i hi
  rw [World.cell?_alloc_lt _ _ _ (lt_of_cell this)]
  exact this
theorem Ahead.below {w w' : World} (h : Ahead w) (hb : Below w.heap.size w w') : Ahead w' := fun i hi => carry hb (h i hi)

theorem date_leap (y : Int) (w : World) (h : 1 ≤ y) : Calls Tryd.prog 37 #[.int .i64 y] w fun e w' => e = .returned (.bool (leapB y)) ∧ w = w' := by
  go_enter Tryd.func37, Tryd.ntmps37
  go_wp2
  all_goals go_ret
  all_goals exact ⟨by simp [leapB, *], rfl⟩

set_option maxHeartbeats 400000 in
theorem date_before (y m : Int) (w : World) (hA : Ahead w) (h1 : 1 ≤ y) (m1 : 1 ≤ m) (m2 : m ≤ 13) :
    Calls Tryd.prog 25 #[.int .i64 y, .int .i64 m] w fun e w' => e = .returned (.int .i64 (befV y m)) ∧ w = w' := by
  obtain ⟨k, rfl⟩ : ∃ k : Nat, m = k + 1 := ⟨(m - 1).toNat, by omega⟩
  have hc := hA k (by omega)
  have hb := aheadN_bd k
  have hv : befV y (k + 1) = aheadN k + if 2 < (k : Int) + 1 ∧ leapB y = true then 1 else 0 := by unfold befV; rw [show ((k : Int) + 1 - 1).toNat = k by omega]
  have HV := Lib.hid hv
  clear hv hA
  generalize aheadN k = a at hc hb HV
  have bb : (0 : Int) ≤ k := by omega
  by_cases hm : 2 < (k : Int) + 1
  · rcases Bool.eq_false_or_eq_true (leapB y) with hl | hl
    · go_enter Tryd.func25, Tryd.ntmps25
      go_wp2_with (go_at_call 37; refine (date_leap _ _ h1).mono ?_; rintro e w' ⟨rfl, rfl⟩)
      go_ret
      exact ⟨by rw [HV.out]; simp [hm, hl], rfl⟩
    · go_enter Tryd.func25, Tryd.ntmps25
      go_wp2_with (go_at_call 37; refine (date_leap _ _ h1).mono ?_; rintro e w' ⟨rfl, rfl⟩)
      go_ret
      exact ⟨by rw [HV.out]; simp [hm, hl], rfl⟩
  · go_enter Tryd.func25, Tryd.ntmps25
    go_wp2_with (go_at_call 37; refine (date_leap _ _ h1).mono ?_; rintro e w' ⟨rfl, rfl⟩)
    go_ret
    exact ⟨by rw [HV.out, if_neg (fun h => by have := h.1; omega)]; simp, rfl⟩

theorem date_year (y : Int) (w : World) (h1 : 1 ≤ y) (h2 : y ≤ 10000) : Calls Tryd.prog 24 #[.int .i64 y] w fun e w' => e = .returned (.int .i64 (yearV y)) ∧ w = w' := by
  go_enter Tryd.func24, Tryd.ntmps24
  go_wp2
  go_ret
  exact ⟨rfl, rfl⟩

abbrev dateV (y m d : Int) : Value := .agg #[.int .i64 y, .int .i64 m, .int .i64 d]
abbrev errV (k : Int) : Value := .iface 57 (.int .i64 k)

set_option maxHeartbeats 1000000 in
set_option maxRecDepth 100000 in
theorem date_check_ok (y m d : Int) (w : World) (hA : Ahead w) (h : dateOk y m d) :
    Calls Tryd.prog 11 #[dateV y m d] w fun e w' => e = .returned .nilIface ∧ Below w.heap.size w w' := by
  obtain ⟨a1, a2, a3, a4, a5, a6⟩ := h
  have b1 := befV_bd y (m + 1)
  have b2 := befV_bd y m
  have HA := Lib.hid hA
  clear hA
  have e1 : IntKind.i64.wrap (m + 1) = m + 1 := IntWalk.i64_in _ (by omega)
  have e2 : IntKind.i64.wrap (befV y (m + 1) - befV y m) = befV y (m + 1) - befV y m := IntWalk.i64_in _ (by omega)
  go_enter Tryd.func11, Tryd.ntmps11
  go_wp2_with fail
  go_quiet ((go_at_call 25; exact Calls.quiet_left (date_before _ _ _ ((HA.out.alloc _).drewN _) (by omega) (by omega) (by omega))))
  go_wp2_with fail
  go_ret
  exact ⟨rfl, (by (repeat (first | with_reducible exact Below.refl _ _ | with_reducible refine bel_set ?_ ?_ | with_reducible refine bel_alloc ?_ ?_ | with_reducible refine Below.drew ?_ | with_reducible refine bel_drewN _ ?_ | with_reducible refine bel_call ?_ (by assumption) ?_)); all_goals (first | (simp; done) | omega | (simp; omega)))⟩

set_option maxHeartbeats 1000000 in
set_option maxRecDepth 100000 in
theorem date_check_day (y m d : Int) (w : World) (hA : Ahead w) (a1 : 1 ≤ y) (a2 : y ≤ 9999) (a3 : 1 ≤ m) (a4 : m ≤ 12) (a5 : 1 ≤ d) (a6 : befV y (m + 1) - befV y m < d) :
    Calls Tryd.prog 11 #[dateV y m d] w fun e w' => e = .returned (errV 1) ∧ Below w.heap.size w w' := by
  have b1 := befV_bd y (m + 1)
  have b2 := befV_bd y m
  have HA := Lib.hid hA
  clear hA
  have e1 : IntKind.i64.wrap (m + 1) = m + 1 := IntWalk.i64_in _ (by omega)
  have e2 : IntKind.i64.wrap (befV y (m + 1) - befV y m) = befV y (m + 1) - befV y m := IntWalk.i64_in _ (by omega)
  go_enter Tryd.func11, Tryd.ntmps11
  go_wp2_with fail
  go_quiet ((go_at_call 25; exact Calls.quiet_left (date_before _ _ _ ((HA.out.alloc _).drewN _) (by omega) (by omega) (by omega))))
  go_wp2_with fail
  go_ret
  exact ⟨rfl, (by (repeat (first | with_reducible exact Below.refl _ _ | with_reducible refine bel_set ?_ ?_ | with_reducible refine bel_alloc ?_ ?_ | with_reducible refine Below.drew ?_ | with_reducible refine bel_drewN _ ?_ | with_reducible refine bel_call ?_ (by assumption) ?_)); all_goals (first | (simp; done) | omega | (simp; omega)))⟩

set_option maxHeartbeats 1000000 in
set_option maxRecDepth 100000 in
theorem date_check_y0 (y m d : Int) (w : World) (h : y < 1) :
    Calls Tryd.prog 11 #[dateV y m d] w fun e w' => e = .returned (errV 1) ∧ Below w.heap.size w w' := by
  have t1 : decide (y < 1) = true := by simpa using h
  go_enter Tryd.func11, Tryd.ntmps11
  go_wp2_with fail
  go_quiet (fail)
  go_wp2_with fail
  go_ret
  exact ⟨rfl, (by (repeat (first | with_reducible exact Below.refl _ _ | with_reducible refine bel_set ?_ ?_ | with_reducible refine bel_alloc ?_ ?_ | with_reducible refine Below.drew ?_ | with_reducible refine bel_drewN _ ?_ | with_reducible refine bel_call ?_ (by assumption) ?_)); all_goals (first | (simp; done) | omega | (simp; omega)))⟩

set_option maxHeartbeats 1000000 in
set_option maxRecDepth 100000 in
theorem date_check_y1 (y m d : Int) (w : World) (h0 : 1 ≤ y) (h : 9999 < y) :
    Calls Tryd.prog 11 #[dateV y m d] w fun e w' => e = .returned (errV 1) ∧ Below w.heap.size w w' := by
  have z1 : decide (y < 1) = false := by simpa using h0
  have t1 : decide (9999 < y) = true := by simpa using h
  go_enter Tryd.func11, Tryd.ntmps11
  go_wp2_with fail
  go_quiet (fail)
  go_wp2_with fail
  go_ret
  exact ⟨rfl, (by (repeat (first | with_reducible exact Below.refl _ _ | with_reducible refine bel_set ?_ ?_ | with_reducible refine bel_alloc ?_ ?_ | with_reducible refine Below.drew ?_ | with_reducible refine bel_drewN _ ?_ | with_reducible refine bel_call ?_ (by assumption) ?_)); all_goals (first | (simp; done) | omega | (simp; omega)))⟩

set_option maxHeartbeats 1000000 in
set_option maxRecDepth 100000 in
theorem date_check_m0 (y m d : Int) (w : World) (h0 : 1 ≤ y) (h1 : y ≤ 9999) (h : m < 1) :
    Calls Tryd.prog 11 #[dateV y m d] w fun e w' => e = .returned (errV 1) ∧ Below w.heap.size w w' := by
  have z1 : decide (y < 1) = false := by simpa using h0
  have z2 : decide (9999 < y) = false := by simpa using h1
  have t1 : decide (m < 1) = true := by simpa using h
  go_enter Tryd.func11, Tryd.ntmps11
  go_wp2_with fail
  go_quiet (fail)
  go_wp2_with fail
  go_ret
  exact ⟨rfl, (by (repeat (first | with_reducible exact Below.refl _ _ | with_reducible refine bel_set ?_ ?_ | with_reducible refine bel_alloc ?_ ?_ | with_reducible refine Below.drew ?_ | with_reducible refine bel_drewN _ ?_ | with_reducible refine bel_call ?_ (by assumption) ?_)); all_goals (first | (simp; done) | omega | (simp; omega)))⟩

set_option maxHeartbeats 1000000 in
set_option maxRecDepth 100000 in
theorem date_check_m1 (y m d : Int) (w : World) (h0 : 1 ≤ y) (h1 : y ≤ 9999) (h2 : 1 ≤ m) (h : 12 < m) :
    Calls Tryd.prog 11 #[dateV y m d] w fun e w' => e = .returned (errV 1) ∧ Below w.heap.size w w' := by
  have z1 : decide (y < 1) = false := by simpa using h0
  have z2 : decide (9999 < y) = false := by simpa using h1
  have z3 : decide (m < 1) = false := by simpa using h2
  have t1 : decide (12 < m) = true := by simpa using h
  go_enter Tryd.func11, Tryd.ntmps11
  go_wp2_with fail
  go_quiet (fail)
  go_wp2_with fail
  go_ret
  exact ⟨rfl, (by (repeat (first | with_reducible exact Below.refl _ _ | with_reducible refine bel_set ?_ ?_ | with_reducible refine bel_alloc ?_ ?_ | with_reducible refine Below.drew ?_ | with_reducible refine bel_drewN _ ?_ | with_reducible refine bel_call ?_ (by assumption) ?_)); all_goals (first | (simp; done) | omega | (simp; omega)))⟩

set_option maxHeartbeats 1000000 in
set_option maxRecDepth 100000 in
theorem date_check_d0 (y m d : Int) (w : World) (h0 : 1 ≤ y) (h1 : y ≤ 9999) (h2 : 1 ≤ m) (h3 : m ≤ 12) (h : d < 1) :
    Calls Tryd.prog 11 #[dateV y m d] w fun e w' => e = .returned (errV 1) ∧ Below w.heap.size w w' := by
  have z1 : decide (y < 1) = false := by simpa using h0
  have z2 : decide (9999 < y) = false := by simpa using h1
  have z3 : decide (m < 1) = false := by simpa using h2
  have z4 : decide (12 < m) = false := by simpa using h3
  have t1 : decide (d < 1) = true := by simpa using h
  go_enter Tryd.func11, Tryd.ntmps11
  go_wp2_with fail
  go_quiet (fail)
  go_wp2_with fail
  go_ret
  exact ⟨rfl, (by (repeat (first | with_reducible exact Below.refl _ _ | with_reducible refine bel_set ?_ ?_ | with_reducible refine bel_alloc ?_ ?_ | with_reducible refine Below.drew ?_ | with_reducible refine bel_drewN _ ?_ | with_reducible refine bel_call ?_ (by assumption) ?_)); all_goals (first | (simp; done) | omega | (simp; omega)))⟩

end Go.Proofs.YtbbafdhgoekdiaaDoor
