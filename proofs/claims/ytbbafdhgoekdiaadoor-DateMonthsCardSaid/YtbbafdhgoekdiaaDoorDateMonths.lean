/- DateMonths: the law's walk. -/
import Derived.Test.YtbbafdhgoekdiaaDoorDateNumber
namespace Go.Proofs.YtbbafdhgoekdiaaDoor
open Go.RowKit

theorem date_fact (w : World) (hA : Ahead w) : Calls Tryd.prog 10 #[dateV 2000 3 1] w fun e w' => e = .returned (.tuple #[.int .i64 730179, .nilIface]) ∧ Below w.heap.size w w' := by
  have e : numV 2000 3 1 = 730179 := by decide
  rw [← e]
  exact date_number_ok 2000 3 1 w hA (dateOk_of _ _ _ (by omega) (by omega) (by omega) (by omega) (by omega) (by decide))

set_option maxHeartbeats 1000000 in
set_option maxRecDepth 100000 in
theorem dateMonths_no (y : Int) (w : World) (hA : Ahead w) (h : ¬ (1 ≤ y ∧ y ≤ 9999)) :
    Calls Tryd.prog 3 #[.int .i64 y] w fun e w' => e = .returned (.bool true) ∧ Below w.heap.size w w' := by
  have HA := Lib.hid hA
  clear hA
  have H1 : ∀ d, ¬ dateOk y 1 d := fun d h' => h ⟨h'.1, h'.2.1⟩
  have H := Lib.hid H1
  clear H1
  go_enter Tryd.func3, Tryd.ntmps3
  go_wp2_with fail
  refine (date_fact _ HA.out).mono ?_
  rintro e w1 ⟨rfl, hb1⟩
  have HA1 := Lib.hid (HA.out.below hb1)
  go_wp2_with fail
  refine wp_loop_rounds 1 ?_
  rw [rounds_succ]
  go_wp2_with fail
  refine (date_number_no y 1 1 _ HA1.out (H.out _)).mono ?_
  rintro e w2 ⟨rfl, hb2⟩
  have HA2 := Lib.hid (HA1.out.below hb2)
  go_wp2_with fail
  refine (date_number_no y 1 28 _ HA2.out (H.out _)).mono ?_
  rintro e w3 ⟨rfl, hb3⟩
  have s1 := hb1.size
  have s2 := hb2.size
  have s3 := hb3.size
  go_wp2_with fail
  all_goals go_ret
  all_goals exact ⟨by first | rfl | exact ret_bool (by simp; omega), (by (repeat (first | with_reducible exact Below.refl _ _ | with_reducible refine bel_set ?_ ?_ | with_reducible refine bel_alloc ?_ ?_ | with_reducible refine Below.drew ?_ | with_reducible refine bel_drewN _ ?_ | with_reducible refine bel_call ?_ (by assumption) ?_)); all_goals (first | (simp; done) | omega | (simp; omega)))⟩


set_option maxHeartbeats 2000000 in
set_option maxRecDepth 100000 in
theorem dateMonths_ok (y : Int) (w : World) (hA : Ahead w) (h1 : 1 ≤ y) (h2 : y ≤ 9999) :
    Calls Tryd.prog 3 #[.int .i64 y] w fun e w' => e = .returned (.bool true) ∧ Below w.heap.size w w' := by
  have HA := Lib.hid hA
  clear hA
  go_enter Tryd.func3, Tryd.ntmps3
  go_wp2_with fail
  refine (date_fact _ HA.out).mono ?_
  rintro e w1 ⟨rfl, hb1⟩
  have HA1 := Lib.hid (HA.out.below hb1)
  go_wp2_with fail
  go_loopw [5, 6] (fun t i wr => ∃ k : Nat, k ≤ 12 ∧ i = .int .i64 (k + 1) ∧ t = .int .i64 (befV y (k + 1)) ∧ Below w.heap.size w wr ∧ Hid (Ahead wr)) (fun _ i _ => 13 - (intOf i).toNat)
  case atStart => exact ⟨0, by omega, rfl, by rw [show ((0 : Nat) : Int) + 1 = 1 by omega, befV_one], hb1, HA1⟩
  case round =>
    obtain ⟨k, hk, rfl, rfl, hbr, HAr⟩ := hrel
    by_cases hlt : k < 12
    · have hd := dimV_bd y (k + 1) (by omega) (by omega)
      have bk := befV_bd y (k + 1)
      have hs := befV_succ y (k + 1)
      generalize hdd : dimV y (k + 1) = dm at hd hs
      have HD := Lib.hid hdd
      have HS := Lib.hid hs
      clear hdd hs
      go_wp2_with fail
      refine (date_number_ok y (k + 1) 1 _ HAr.out (dateOk_of _ _ _ h1 h2 (by omega) (by omega) (by omega) (by rw [HD.out]; omega))).mono ?_
      rintro e w2 ⟨rfl, hb2⟩
      have HA2 := Lib.hid (HAr.out.below hb2)
      go_wp2_with fail
      refine (date_number_ok y (k + 1) 28 _ HA2.out (dateOk_of _ _ _ h1 h2 (by omega) (by omega) (by omega) (by rw [HD.out]; omega))).mono ?_
      rintro e w3 ⟨rfl, hb3⟩
      have HA3 := Lib.hid (HA2.out.below hb3)
      have s1 := hbr.size
      have s2 := hb2.size
      have s3 := hb3.size
      have hbw3 : Below w.heap.size w w3 := (by (repeat (first | with_reducible exact Below.refl _ _ | with_reducible refine bel_set ?_ ?_ | with_reducible refine bel_alloc ?_ ?_ | with_reducible refine Below.drew ?_ | with_reducible refine bel_drewN _ ?_ | with_reducible refine bel_call ?_ (by assumption) ?_)); all_goals (first | (simp; done) | omega | (simp; omega)))
      have hnb : 0 ≤ numV y (k + 1) 1 ∧ numV y (k + 1) 1 ≤ 4000000 := by have := yearV_bd y h1 (by omega); unfold numV; omega
      rw [show numV y (k + 1) 28 = numV y (k + 1) 1 + 27 by unfold numV; omega]
      generalize numV y (k + 1) 1 = A at hnb ⊢
      obtain ⟨hn1, hn2⟩ := hnb
      obtain ⟨wo, rfl⟩ : ∃ wo : World, wo = wr := ⟨_, rfl⟩
      clear hb1 HA1 hb2 hb3 HA2 hbr HAr s1 s2 s3
      go_wp2_with fail
      go_loopw [11] (fun t wq => ∃ L : Nat, 28 ≤ L ∧ (L : Int) ≤ dm ∧ t = .int .i64 L ∧ Below w.heap.size w wq ∧ Hid (Ahead wq)) (fun t _ => 40 - (intOf t).toNat)
      case atStart => exact ⟨28, by omega, by omega, rfl, hbw3, HA3⟩
      case round =>
        obtain ⟨L, hL1, hL2, rfl, hbq, HAq⟩ := hrel
        by_cases hl : (L : Int) < dm
        · go_wp2_with fail
          refine (date_check_ok y (k + 1) (L + 1) _ HAq.out (dateOk_of _ _ _ h1 h2 (by omega) (by omega) (by omega) (by rw [HD.out]; omega))).mono ?_
          rintro e w4 ⟨rfl, hb4⟩
          have HA4 := Lib.hid (HAq.out.below hb4)
          have s4 := hbq.size
          have hbw4 : Below w.heap.size w w4 := (by (repeat (first | with_reducible exact Below.refl _ _ | with_reducible refine bel_set ?_ ?_ | with_reducible refine bel_alloc ?_ ?_ | with_reducible refine Below.drew ?_ | with_reducible refine bel_drewN _ ?_ | with_reducible refine bel_call ?_ (by assumption) ?_)); all_goals (first | (simp; done) | omega | (simp; omega)))
          go_wp2_with fail
          go_roundw
          case rel => exact ⟨L + 1, by omega, by omega, by go_num, hbw4, HA4⟩
          case measure => simp [intOf]; omega
        · go_wp2_with fail
          refine (date_check_no y (k + 1) (L + 1) _ HAq.out (fun h => by have := h.2.2.2.2.2; have e : dimV y (k + 1) = befV y (k + 1 + 1) - befV y (k + 1) := rfl; have := HD.out; omega)).mono ?_
          rintro e w4 ⟨rfl, hb4⟩
          have HA4 := Lib.hid (HAq.out.below hb4)
          have s4 := hbq.size
          have hbw4 : Below w.heap.size w w4 := (by (repeat (first | with_reducible exact Below.refl _ _ | with_reducible refine bel_set ?_ ?_ | with_reducible refine bel_alloc ?_ ?_ | with_reducible refine Below.drew ?_ | with_reducible refine bel_drewN _ ?_ | with_reducible refine bel_call ?_ (by assumption) ?_)); all_goals (first | (simp; done) | omega | (simp; omega)))
          obtain rfl : dm = L := by omega
          go_wp2_with fail
          go_roundw
          case rel => exact ⟨k + 1, by omega, by go_num, by rw [show ((k + 1 : Nat) : Int) + 1 = (k : Int) + 1 + 1 by omega, HS.out], hbw4, HA4⟩
          case measure => simp [intOf]; omega
    · obtain rfl : k = 12 := by omega
      have hd := dim12 y
      have b1 := befV_one y
      have b13 := befV_13 y
      have bk := befV_bd y 12
      have hs : numV y 12 31 - numV y 1 1 + 1 = befV y 13 := by unfold numV; omega
      have hn1 : 0 ≤ numV y 1 1 ∧ numV y 1 1 ≤ 4000000 := by have := yearV_bd y h1 (by omega); unfold numV; omega
      have hn2 : 0 ≤ numV y 12 31 ∧ numV y 12 31 ≤ 4000000 := by have := yearV_bd y h1 (by omega); unfold numV; omega
      have ok1 : dateOk y 1 1 := dateOk_of _ _ _ h1 h2 (by omega) (by omega) (by omega) (by have := dimV_bd y 1 (by omega) (by omega); omega)
      have ok2 : dateOk y 12 31 := dateOk_of _ _ _ h1 h2 (by omega) (by omega) (by omega) (by omega)
      have O1 := Lib.hid ok1
      have O2 := Lib.hid ok2
      have HS := Lib.hid hs
      clear ok1 ok2 hs b13 b1 hd
      go_wp2_with fail
      refine (date_number_ok y 1 1 _ HAr.out O1.out).mono ?_
      rintro e w2 ⟨rfl, hb2⟩
      have HA2 := Lib.hid (HAr.out.below hb2)
      go_wp2_with fail
      refine (date_number_ok y 12 31 _ HA2.out O2.out).mono ?_
      rintro e w3 ⟨rfl, hb3⟩
      have s1 := hbr.size
      have s2 := hb2.size
      have s3 := hb3.size
      have hq := HS.out
      generalize numV y 1 1 = A at *
      generalize numV y 12 31 = B at *
      go_wp2_with fail
      all_goals go_ret
      all_goals exact ⟨rfl, (by (repeat (first | with_reducible exact Below.refl _ _ | with_reducible refine bel_set ?_ ?_ | with_reducible refine bel_alloc ?_ ?_ | with_reducible refine Below.drew ?_ | with_reducible refine bel_drewN _ ?_ | with_reducible refine bel_call ?_ (by assumption) ?_)); all_goals (first | (simp; done) | omega | (simp; omega)))⟩

end Go.Proofs.YtbbafdhgoekdiaaDoor
