/- date.Of: a day is told of each number that is one's. -/
import Derived.Test.YtbbafdhgoekdiaaDoorDateNumber
namespace Go.Proofs.YtbbafdhgoekdiaaDoor
open Go.RowKit

theorem date_of_some (n : Int) (w : World) (hA : Ahead w) (h0 : 0 ≤ n) (h1 : n < 3652059) :
    Calls Tryd.prog 44 #[.int .i64 n] w fun e w' => (∃ y m d : Int, e = .returned (.tuple #[.agg #[.int .i64 y, .int .i64 m, .int .i64 d], .nilIface])) ∧ Below w.heap.size w w' := by
  have HA := Lib.hid hA
  clear hA
  have e0 : yearV 10000 = 3652059 := by decide
  go_enter Tryd.func44, Tryd.ntmps44
  go_wp2_with fail
  refine (date_year 10000 _ (by omega) (by omega)).mono ?_
  rw [e0]
  rintro e w1 ⟨rfl, rfl⟩
  go_wp2_with fail
  go_loop [4] (fun y => ∃ z : Int, 1 ≤ z ∧ z ≤ 9999 ∧ y = .int .i64 z ∧ yearV z ≤ n) (fun y => 20000 - (intOf y).toNat)
  case atStart => exact ⟨n / 366 + 1, by omega, by omega, rfl, by unfold yearV; omega⟩
  case round =>
    obtain ⟨y, hy1, hy2, rfl, hle⟩ := hrel
    have hb := yearV_bd y hy1 (by omega)
    have hb2 := yearV_bd (y + 1) (by omega) (by omega)
    go_wp2_with fail
    refine (date_year (y + 1) _ (by omega) (by omega)).mono ?_
    rintro e w2 ⟨rfl, rfl⟩
    by_cases hc : yearV (y + 1) ≤ n
    · have hy3 : y + 1 ≤ 9999 := by
        rcases Int.lt_or_le y 9999 with h | h
        · omega
        · obtain rfl : y = 9999 := by omega
          rw [show (9999 : Int) + 1 = 10000 from rfl, e0] at hc
          omega
      have HC := Lib.hid hc
      generalize hY : yearV (y + 1) = Y1 at *
      have HY := Lib.hid hY
      clear hY
      go_wp2_with fail
      go_round
      case rel => exact ⟨y + 1, by omega, hy3, rfl, by rw [HY.out]; exact HC.out⟩
      case measure => simp [intOf]; omega
    · generalize yearV (y + 1) = Y1 at *
      go_wp2_with fail
      go_loop [5] (fun m => ∃ z : Int, 1 ≤ z ∧ z ≤ 12 ∧ m = .int .i64 z) (fun m => 20 - (intOf m).toNat)
      case atStart => exact ⟨1, by omega, by omega, rfl⟩
      case round =>
        obtain ⟨m, hm1, hm2, rfl⟩ := hrel
        have hbm := befV_bd y m
        by_cases hm : m < 12
        · have hbm2 := befV_bd y (m + 1)
          go_wp2_with fail
          refine (date_year y _ (by omega) (by omega)).mono ?_
          rintro e w3 ⟨rfl, rfl⟩
          go_wp2_with fail
          refine (date_before y (m + 1) _ (HA.out.alloc _) (by omega) (by omega) (by omega)).mono ?_
          rintro e w4 ⟨rfl, rfl⟩
          by_cases hc2 : yearV y + befV y (m + 1) ≤ n
          · generalize befV y (m + 1) = B1 at *
            generalize yearV y = Y0 at *
            go_wp2_with fail
            go_round
            case rel => exact ⟨m + 1, by omega, by omega, rfl⟩
            case measure => simp [intOf]; omega
          · generalize befV y (m + 1) = B1 at *
            go_wp2_with fail
            refine (date_year y _ (by omega) (by omega)).mono ?_
            rintro e w3 ⟨rfl, rfl⟩
            go_wp2_with fail
            refine (date_before y m _ (HA.out.alloc _) (by omega) (by omega) (by omega)).mono ?_
            rintro e w4 ⟨rfl, rfl⟩
            generalize befV y m = B0 at *
            generalize yearV y = Y0 at *
            go_wp2_with fail
            exact bodyPost_ret (v := .tuple #[.agg #[.int .i64 y, .int .i64 m, .int .i64 (n - Y0 - B0 + 1)], .nilIface]) (by simp [results, Tryd.results44, go_sem]) rfl ⟨⟨_, _, _, rfl⟩, (by (repeat (first | with_reducible exact Below.refl _ _ | with_reducible refine bel_set ?_ ?_ | with_reducible refine bel_alloc ?_ ?_ | with_reducible refine Below.drew ?_ | with_reducible refine bel_drewN _ ?_ | with_reducible refine bel_call ?_ (by assumption) ?_)); all_goals (first | (simp; done) | omega | (simp; omega)))⟩
        · go_wp2_with fail
          refine (date_year y _ (by omega) (by omega)).mono ?_
          rintro e w3 ⟨rfl, rfl⟩
          go_wp2_with fail
          refine (date_before y m _ (HA.out.alloc _) (by omega) (by omega) (by omega)).mono ?_
          rintro e w4 ⟨rfl, rfl⟩
          generalize befV y m = B0 at *
          generalize yearV y = Y0 at *
          go_wp2_with fail
          exact bodyPost_ret (v := .tuple #[.agg #[.int .i64 y, .int .i64 m, .int .i64 (n - Y0 - B0 + 1)], .nilIface]) (by simp [results, Tryd.results44, go_sem]) rfl ⟨⟨_, _, _, rfl⟩, (by (repeat (first | with_reducible exact Below.refl _ _ | with_reducible refine bel_set ?_ ?_ | with_reducible refine bel_alloc ?_ ?_ | with_reducible refine Below.drew ?_ | with_reducible refine bel_drewN _ ?_ | with_reducible refine bel_call ?_ (by assumption) ?_)); all_goals (first | (simp; done) | omega | (simp; omega)))⟩
end Go.Proofs.YtbbafdhgoekdiaaDoor
