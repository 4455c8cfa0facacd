/- DecThree: of three numbers it does not matter which two are added first: the law's walk. -/
import Derived.Test.YtbbafdhgoekdiaaDoorDecAdd
import Derived.Test.YtbbafdhgoekdiaaDoorTold
namespace Go.Proofs.YtbbafdhgoekdiaaDoor
open Go.RowKit

theorem dec_fact (w : World) : Calls Tryd.prog 14 #[decV 5 1, decV 1 0] w fun e w' => e = .returned (.tuple #[decV 15 1, .nilIface]) ∧ Below w.heap.size w w' := by
  refine (dec_add_gt 5 1 1 0 w (by unfold decOk; omega) (by unfold decOk; omega) (by omega)).mono ?_
  rintro e w' ⟨⟨h1, _⟩, hb⟩
  have t : ten ((1 : Int) - 0).toNat = 10 := rfl
  rw [t] at h1
  exact ⟨h1 (by omega), hb⟩

/-- The digits and the scale of a sum. -/
def addC (c1 s1 c2 s2 : Int) : Int := c1 * ten (max s1 s2 - s1).toNat + c2 * ten (max s1 s2 - s2).toNat
def addOk (c1 s1 c2 s2 : Int) : Prop := decOk c1 s1 ∧ decOk c2 s2 ∧ -1000000000000000 ≤ addC c1 s1 c2 s2 ∧ addC c1 s1 c2 s2 ≤ 1000000000000000
def AddRes (c1 s1 c2 s2 : Int) (e : Ending) : Prop := (addOk c1 s1 c2 s2 → e = .returned (.tuple #[decV (addC c1 s1 c2 s2) (max s1 s2), .nilIface])) ∧ (¬ addOk c1 s1 c2 s2 → e = .returned (.tuple #[decV 0 0, errV 1]))

theorem dec_add (c1 s1 c2 s2 : Int) (w : World) : Calls Tryd.prog 14 #[decV c1 s1, decV c2 s2] w fun e w' => AddRes c1 s1 c2 s2 e ∧ Below w.heap.size w w' := by
  by_cases h1 : decOk c1 s1
  · by_cases h2 : decOk c2 s2
    · have ho : addOk c1 s1 c2 s2 ↔ (-1000000000000000 ≤ addC c1 s1 c2 s2 ∧ addC c1 s1 c2 s2 ≤ 1000000000000000) := ⟨fun h => h.2.2, fun h => ⟨h1, h2, h⟩⟩
      by_cases hs : s1 ≤ s2
      · have ev : addC c1 s1 c2 s2 = c1 * ten (s2 - s1).toNat + c2 := by
          unfold addC; rw [Int.max_eq_right hs, Int.sub_self, show ten (0 : Int).toNat = 1 from rfl, Int.mul_one]
        refine (dec_add_le c1 s1 c2 s2 w h1 h2 hs).mono ?_
        rintro e w' ⟨⟨p1, p2⟩, hb⟩
        unfold AddRes
        rw [ho, ev, Int.max_eq_right hs]
        exact ⟨⟨p1, p2⟩, hb⟩
      · have ev : addC c1 s1 c2 s2 = c2 * ten (s1 - s2).toNat + c1 := by
          unfold addC; rw [Int.max_eq_left (by omega), Int.sub_self, show ten (0 : Int).toNat = 1 from rfl, Int.mul_one, Int.add_comm]
        refine (dec_add_gt c1 s1 c2 s2 w h1 h2 (by omega)).mono ?_
        rintro e w' ⟨⟨p1, p2⟩, hb⟩
        unfold AddRes
        rw [ho, ev, Int.max_eq_left (by omega)]
        exact ⟨⟨p1, p2⟩, hb⟩
    · refine (dec_add_check2 c1 s1 c2 s2 w h1 h2).mono ?_
      rintro e w' ⟨p, hb⟩
      exact ⟨⟨fun h => absurd h.2.1 h2, fun _ => p⟩, hb⟩
  · refine (dec_add_check1 c1 s1 c2 s2 w h1).mono ?_
    rintro e w' ⟨p, hb⟩
    exact ⟨⟨fun h => absurd h.1 h1, fun _ => p⟩, hb⟩
theorem dec_add_any (c1 s1 c2 s2 : Int) (w : World) : Calls Tryd.prog 14 #[decV c1 s1, decV c2 s2] w fun e w' => (∃ c s k, e = .returned (.tuple #[decV c s, k])) ∧ Below w.heap.size w w' := by
  refine (dec_add c1 s1 c2 s2 w).mono ?_
  rintro e w' ⟨⟨p1, p2⟩, hb⟩
  by_cases h : addOk c1 s1 c2 s2
  · exact ⟨⟨_, _, _, p1 h⟩, hb⟩
  · exact ⟨⟨_, _, _, p2 h⟩, hb⟩

theorem ten_max (a b : Int) (m : Int) (h1 : a ≤ b) (h2 : b ≤ m) : ten (b - a).toNat * ten (m - b).toNat = ten (m - a).toNat := by
  rw [← ten_add]; congr 1; omega
theorem add3 (a sa b sb c sc : Int) : addC (addC a sa b sb) (max sa sb) c sc = a * ten (max (max sa sb) sc - sa).toNat + b * ten (max (max sa sb) sc - sb).toNat + c * ten (max (max sa sb) sc - sc).toNat := by
  unfold addC
  rw [Int.add_mul, Int.mul_assoc, Int.mul_assoc, ten_max sa (max sa sb) _ (by omega) (by omega), ten_max sb (max sa sb) _ (by omega) (by omega)]
theorem add3' (a sa b sb c sc : Int) : addC a sa (addC b sb c sc) (max sb sc) = a * ten (max (max sa sb) sc - sa).toNat + b * ten (max (max sa sb) sc - sb).toNat + c * ten (max (max sa sb) sc - sc).toNat := by
  unfold addC
  rw [show max sa (max sb sc) = max (max sa sb) sc by omega, Int.add_mul, Int.mul_assoc, Int.mul_assoc, ten_max sb (max sb sc) _ (by omega) (by omega), ten_max sc (max sb sc) _ (by omega) (by omega), Int.add_assoc]
theorem add_same (a sa b sb c sc : Int) : addC (addC a sa b sb) (max sa sb) c sc = addC a sa (addC b sb c sc) (max sb sc) := by rw [add3, add3']
theorem addOk_dec {a sa b sb : Int} (h : addOk a sa b sb) : decOk (addC a sa b sb) (max sa sb) := by
  obtain ⟨⟨h1, h2, _⟩, ⟨h3, h4, _⟩, h5, h6⟩ := h
  exact ⟨by omega, by omega, h5, h6⟩
theorem addOk_same {a sa b sb c sc : Int} (h1 : addOk a sa b sb) (h2 : addOk b sb c sc) : addOk (addC a sa b sb) (max sa sb) c sc ↔ addOk a sa (addC b sb c sc) (max sb sc) := by
  have e := add_same a sa b sb c sc
  have d1 := addOk_dec h1
  have d2 := addOk_dec h2
  unfold addOk
  rw [e]
  exact ⟨fun h => ⟨h1.1, d2, h.2.2⟩, fun h => ⟨d1, h2.2.1, h.2.2⟩⟩

set_option maxHeartbeats 1000000 in
theorem decThree_ab (a sa b sb c sc : Int) (w : World) (h1 : Hid (¬ addOk a sa b sb)) :
    Calls Tryd.prog 5 #[decV a sa, decV b sb, decV c sc] w fun e w' => e = .returned (.bool true) ∧ Below w.heap.size w w' := by
  go_enter Tryd.func5, Tryd.ntmps5
  go_wp2_with fail
  refine (dec_fact _).mono ?_
  rintro e w1 ⟨rfl, hb1⟩
  have a0_w1 : w1.cell? ⟨w.heap.size, 0, none⟩ = some (.int .i64 a) := carry hb1 (by go_simp)
  have a1_w1 : w1.cell? ⟨w.heap.size, 1, none⟩ = some (.int .i64 sa) := carry hb1 (by go_simp)
  have b0_w1 : w1.cell? ⟨w.heap.size + 1, 0, none⟩ = some (.int .i64 b) := carry hb1 (by go_simp)
  have b1_w1 : w1.cell? ⟨w.heap.size + 1, 1, none⟩ = some (.int .i64 sb) := carry hb1 (by go_simp)
  have c0_w1 : w1.cell? ⟨w.heap.size + 2, 0, none⟩ = some (.int .i64 c) := carry hb1 (by go_simp)
  have c1_w1 : w1.cell? ⟨w.heap.size + 2, 1, none⟩ = some (.int .i64 sc) := carry hb1 (by go_simp)
  have qa0_w1 := lt_of_cell a0_w1
  have qb0_w1 := lt_of_cell b0_w1
  have qc0_w1 := lt_of_cell c0_w1
  have z1 : w.heap.size + 2 < w1.heap.size := by have := hb1.size; first | omega | (simp at this; omega)
  go_wp2_with fail
  refine (dec_add a sa b sb _).mono ?_
  rintro e w2 ⟨hR2, hb2⟩
  have a0_w2 : w2.cell? ⟨w.heap.size, 0, none⟩ = some (.int .i64 a) := carry hb2 (by go_simp)
  have a1_w2 : w2.cell? ⟨w.heap.size, 1, none⟩ = some (.int .i64 sa) := carry hb2 (by go_simp)
  have b0_w2 : w2.cell? ⟨w.heap.size + 1, 0, none⟩ = some (.int .i64 b) := carry hb2 (by go_simp)
  have b1_w2 : w2.cell? ⟨w.heap.size + 1, 1, none⟩ = some (.int .i64 sb) := carry hb2 (by go_simp)
  have c0_w2 : w2.cell? ⟨w.heap.size + 2, 0, none⟩ = some (.int .i64 c) := carry hb2 (by go_simp)
  have c1_w2 : w2.cell? ⟨w.heap.size + 2, 1, none⟩ = some (.int .i64 sc) := carry hb2 (by go_simp)
  have h0_w2 : w2.cell? ⟨w1.heap.size, 0, none⟩ = some (.int .i64 15) := carry hb2 (by go_simp)
  have h1_w2 : w2.cell? ⟨w1.heap.size, 1, none⟩ = some (.int .i64 1) := carry hb2 (by go_simp)
  have qa0_w2 := lt_of_cell a0_w2
  have qb0_w2 := lt_of_cell b0_w2
  have qc0_w2 := lt_of_cell c0_w2
  have qh0_w2 := lt_of_cell h0_w2
  have z2 : w1.heap.size < w2.heap.size := by have := hb2.size; first | omega | (simp at this; omega)
  clear a0_w1 a1_w1 b0_w1 b1_w1 c0_w1 c1_w1
  obtain rfl := hR2.2 h1.out
  clear hR2
  go_wp2_with fail
  refine (dec_add_any b sb c sc _).mono ?_
  rintro e w3 ⟨⟨cc, cs, ck, rfl⟩, hb3⟩
  have a0_w3 : w3.cell? ⟨w.heap.size, 0, none⟩ = some (.int .i64 a) := carry hb3 (by go_simp)
  have a1_w3 : w3.cell? ⟨w.heap.size, 1, none⟩ = some (.int .i64 sa) := carry hb3 (by go_simp)
  have b0_w3 : w3.cell? ⟨w.heap.size + 1, 0, none⟩ = some (.int .i64 b) := carry hb3 (by go_simp)
  have b1_w3 : w3.cell? ⟨w.heap.size + 1, 1, none⟩ = some (.int .i64 sb) := carry hb3 (by go_simp)
  have c0_w3 : w3.cell? ⟨w.heap.size + 2, 0, none⟩ = some (.int .i64 c) := carry hb3 (by go_simp)
  have c1_w3 : w3.cell? ⟨w.heap.size + 2, 1, none⟩ = some (.int .i64 sc) := carry hb3 (by go_simp)
  have h0_w3 : w3.cell? ⟨w1.heap.size, 0, none⟩ = some (.int .i64 15) := carry hb3 (by go_simp)
  have h1_w3 : w3.cell? ⟨w1.heap.size, 1, none⟩ = some (.int .i64 1) := carry hb3 (by go_simp)
  have x0_w3 : w3.cell? ⟨w2.heap.size, 0, none⟩ = some (.int .i64 0) := carry hb3 (by go_simp)
  have x1_w3 : w3.cell? ⟨w2.heap.size, 1, none⟩ = some (.int .i64 0) := carry hb3 (by go_simp)
  have qa0_w3 := lt_of_cell a0_w3
  have qb0_w3 := lt_of_cell b0_w3
  have qc0_w3 := lt_of_cell c0_w3
  have qh0_w3 := lt_of_cell h0_w3
  have qx0_w3 := lt_of_cell x0_w3
  have z3 : w2.heap.size < w3.heap.size := by have := hb3.size; first | omega | (simp at this; omega)
  clear a0_w2 a1_w2 b0_w2 b1_w2 c0_w2 c1_w2 h0_w2 h1_w2
  go_wp2_with fail
  go_ret
  exact ⟨rfl, (by (repeat (first | with_reducible exact Below.refl _ _ | with_reducible refine bel_set ?_ ?_ | with_reducible refine bel_alloc ?_ ?_ | with_reducible refine Below.drew ?_ | with_reducible refine bel_drewN _ ?_ | with_reducible refine bel_call ?_ (by assumption) ?_)); all_goals (first | (simp; done) | omega | (simp; omega)))⟩

set_option maxHeartbeats 1000000 in
theorem decThree_bc (a sa b sb c sc : Int) (w : World) (h1 : Hid (addOk a sa b sb)) (h2 : Hid (¬ addOk b sb c sc)) :
    Calls Tryd.prog 5 #[decV a sa, decV b sb, decV c sc] w fun e w' => e = .returned (.bool true) ∧ Below w.heap.size w w' := by
  go_enter Tryd.func5, Tryd.ntmps5
  go_wp2_with fail
  refine (dec_fact _).mono ?_
  rintro e w1 ⟨rfl, hb1⟩
  have a0_w1 : w1.cell? ⟨w.heap.size, 0, none⟩ = some (.int .i64 a) := carry hb1 (by go_simp)
  have a1_w1 : w1.cell? ⟨w.heap.size, 1, none⟩ = some (.int .i64 sa) := carry hb1 (by go_simp)
  have b0_w1 : w1.cell? ⟨w.heap.size + 1, 0, none⟩ = some (.int .i64 b) := carry hb1 (by go_simp)
  have b1_w1 : w1.cell? ⟨w.heap.size + 1, 1, none⟩ = some (.int .i64 sb) := carry hb1 (by go_simp)
  have c0_w1 : w1.cell? ⟨w.heap.size + 2, 0, none⟩ = some (.int .i64 c) := carry hb1 (by go_simp)
  have c1_w1 : w1.cell? ⟨w.heap.size + 2, 1, none⟩ = some (.int .i64 sc) := carry hb1 (by go_simp)
  have qa0_w1 := lt_of_cell a0_w1
  have qb0_w1 := lt_of_cell b0_w1
  have qc0_w1 := lt_of_cell c0_w1
  have z1 : w.heap.size + 2 < w1.heap.size := by have := hb1.size; first | omega | (simp at this; omega)
  go_wp2_with fail
  refine (dec_add a sa b sb _).mono ?_
  rintro e w2 ⟨hR2, hb2⟩
  have a0_w2 : w2.cell? ⟨w.heap.size, 0, none⟩ = some (.int .i64 a) := carry hb2 (by go_simp)
  have a1_w2 : w2.cell? ⟨w.heap.size, 1, none⟩ = some (.int .i64 sa) := carry hb2 (by go_simp)
  have b0_w2 : w2.cell? ⟨w.heap.size + 1, 0, none⟩ = some (.int .i64 b) := carry hb2 (by go_simp)
  have b1_w2 : w2.cell? ⟨w.heap.size + 1, 1, none⟩ = some (.int .i64 sb) := carry hb2 (by go_simp)
  have c0_w2 : w2.cell? ⟨w.heap.size + 2, 0, none⟩ = some (.int .i64 c) := carry hb2 (by go_simp)
  have c1_w2 : w2.cell? ⟨w.heap.size + 2, 1, none⟩ = some (.int .i64 sc) := carry hb2 (by go_simp)
  have h0_w2 : w2.cell? ⟨w1.heap.size, 0, none⟩ = some (.int .i64 15) := carry hb2 (by go_simp)
  have h1_w2 : w2.cell? ⟨w1.heap.size, 1, none⟩ = some (.int .i64 1) := carry hb2 (by go_simp)
  have qa0_w2 := lt_of_cell a0_w2
  have qb0_w2 := lt_of_cell b0_w2
  have qc0_w2 := lt_of_cell c0_w2
  have qh0_w2 := lt_of_cell h0_w2
  have z2 : w1.heap.size < w2.heap.size := by have := hb2.size; first | omega | (simp at this; omega)
  clear a0_w1 a1_w1 b0_w1 b1_w1 c0_w1 c1_w1
  obtain rfl := hR2.1 h1.out
  clear hR2
  go_wp2_with fail
  refine (dec_add b sb c sc _).mono ?_
  rintro e w3 ⟨hR3, hb3⟩
  have a0_w3 : w3.cell? ⟨w.heap.size, 0, none⟩ = some (.int .i64 a) := carry hb3 (by go_simp)
  have a1_w3 : w3.cell? ⟨w.heap.size, 1, none⟩ = some (.int .i64 sa) := carry hb3 (by go_simp)
  have b0_w3 : w3.cell? ⟨w.heap.size + 1, 0, none⟩ = some (.int .i64 b) := carry hb3 (by go_simp)
  have b1_w3 : w3.cell? ⟨w.heap.size + 1, 1, none⟩ = some (.int .i64 sb) := carry hb3 (by go_simp)
  have c0_w3 : w3.cell? ⟨w.heap.size + 2, 0, none⟩ = some (.int .i64 c) := carry hb3 (by go_simp)
  have c1_w3 : w3.cell? ⟨w.heap.size + 2, 1, none⟩ = some (.int .i64 sc) := carry hb3 (by go_simp)
  have h0_w3 : w3.cell? ⟨w1.heap.size, 0, none⟩ = some (.int .i64 15) := carry hb3 (by go_simp)
  have h1_w3 : w3.cell? ⟨w1.heap.size, 1, none⟩ = some (.int .i64 1) := carry hb3 (by go_simp)
  have x0_w3 : w3.cell? ⟨w2.heap.size, 0, none⟩ = some (.int .i64 (addC a sa b sb)) := carry hb3 (by go_simp)
  have x1_w3 : w3.cell? ⟨w2.heap.size, 1, none⟩ = some (.int .i64 (max sa sb)) := carry hb3 (by go_simp)
  have qa0_w3 := lt_of_cell a0_w3
  have qb0_w3 := lt_of_cell b0_w3
  have qc0_w3 := lt_of_cell c0_w3
  have qh0_w3 := lt_of_cell h0_w3
  have qx0_w3 := lt_of_cell x0_w3
  have z3 : w2.heap.size < w3.heap.size := by have := hb3.size; first | omega | (simp at this; omega)
  clear a0_w2 a1_w2 b0_w2 b1_w2 c0_w2 c1_w2 h0_w2 h1_w2
  obtain rfl := hR3.2 h2.out
  clear hR3
  generalize addC a sa b sb = A0 at *
  generalize max sa sb = S0 at *
  by_cases e1 : A0 = 0
  · by_cases e2 : S0 = 0
    · subst e1 e2
      go_wp2_with fail
      all_goals go_ret
      all_goals exact ⟨rfl, (by (repeat (first | with_reducible exact Below.refl _ _ | with_reducible refine bel_set ?_ ?_ | with_reducible refine bel_alloc ?_ ?_ | with_reducible refine Below.drew ?_ | with_reducible refine bel_drewN _ ?_ | with_reducible refine bel_call ?_ (by assumption) ?_)); all_goals (first | (simp; done) | omega | (simp; omega)))⟩
    · go_wp2_with fail
      all_goals go_ret
      all_goals exact ⟨rfl, (by (repeat (first | with_reducible exact Below.refl _ _ | with_reducible refine bel_set ?_ ?_ | with_reducible refine bel_alloc ?_ ?_ | with_reducible refine Below.drew ?_ | with_reducible refine bel_drewN _ ?_ | with_reducible refine bel_call ?_ (by assumption) ?_)); all_goals (first | (simp; done) | omega | (simp; omega)))⟩
  · go_wp2_with fail
    all_goals go_ret
    all_goals exact ⟨rfl, (by (repeat (first | with_reducible exact Below.refl _ _ | with_reducible refine bel_set ?_ ?_ | with_reducible refine bel_alloc ?_ ?_ | with_reducible refine Below.drew ?_ | with_reducible refine bel_drewN _ ?_ | with_reducible refine bel_call ?_ (by assumption) ?_)); all_goals (first | (simp; done) | omega | (simp; omega)))⟩

set_option maxHeartbeats 1000000 in
theorem decThree_ok (a sa b sb c sc : Int) (w : World) (h1 : Hid (addOk a sa b sb)) (h2 : Hid (addOk b sb c sc)) (h3 : Hid (addOk (addC a sa b sb) (max sa sb) c sc)) (hE : Hid (ErrT w)) :
    Calls Tryd.prog 5 #[decV a sa, decV b sb, decV c sc] w fun e w' => e = .returned (.bool true) ∧ Below w.heap.size w w' := by
  go_enter Tryd.func5, Tryd.ntmps5
  go_wp2_with fail
  refine (dec_fact _).mono ?_
  rintro e w1 ⟨rfl, hb1⟩
  have a0_w1 : w1.cell? ⟨w.heap.size, 0, none⟩ = some (.int .i64 a) := carry hb1 (by go_simp)
  have a1_w1 : w1.cell? ⟨w.heap.size, 1, none⟩ = some (.int .i64 sa) := carry hb1 (by go_simp)
  have b0_w1 : w1.cell? ⟨w.heap.size + 1, 0, none⟩ = some (.int .i64 b) := carry hb1 (by go_simp)
  have b1_w1 : w1.cell? ⟨w.heap.size + 1, 1, none⟩ = some (.int .i64 sb) := carry hb1 (by go_simp)
  have c0_w1 : w1.cell? ⟨w.heap.size + 2, 0, none⟩ = some (.int .i64 c) := carry hb1 (by go_simp)
  have c1_w1 : w1.cell? ⟨w.heap.size + 2, 1, none⟩ = some (.int .i64 sc) := carry hb1 (by go_simp)
  have qa0_w1 := lt_of_cell a0_w1
  have qb0_w1 := lt_of_cell b0_w1
  have qc0_w1 := lt_of_cell c0_w1
  have z1 : w.heap.size + 2 < w1.heap.size := by have := hb1.size; first | omega | (simp at this; omega)
  go_wp2_with fail
  refine (dec_add a sa b sb _).mono ?_
  rintro e w2 ⟨hR2, hb2⟩
  have a0_w2 : w2.cell? ⟨w.heap.size, 0, none⟩ = some (.int .i64 a) := carry hb2 (by go_simp)
  have a1_w2 : w2.cell? ⟨w.heap.size, 1, none⟩ = some (.int .i64 sa) := carry hb2 (by go_simp)
  have b0_w2 : w2.cell? ⟨w.heap.size + 1, 0, none⟩ = some (.int .i64 b) := carry hb2 (by go_simp)
  have b1_w2 : w2.cell? ⟨w.heap.size + 1, 1, none⟩ = some (.int .i64 sb) := carry hb2 (by go_simp)
  have c0_w2 : w2.cell? ⟨w.heap.size + 2, 0, none⟩ = some (.int .i64 c) := carry hb2 (by go_simp)
  have c1_w2 : w2.cell? ⟨w.heap.size + 2, 1, none⟩ = some (.int .i64 sc) := carry hb2 (by go_simp)
  have h0_w2 : w2.cell? ⟨w1.heap.size, 0, none⟩ = some (.int .i64 15) := carry hb2 (by go_simp)
  have h1_w2 : w2.cell? ⟨w1.heap.size, 1, none⟩ = some (.int .i64 1) := carry hb2 (by go_simp)
  have qa0_w2 := lt_of_cell a0_w2
  have qb0_w2 := lt_of_cell b0_w2
  have qc0_w2 := lt_of_cell c0_w2
  have qh0_w2 := lt_of_cell h0_w2
  have z2 : w1.heap.size < w2.heap.size := by have := hb2.size; first | omega | (simp at this; omega)
  clear a0_w1 a1_w1 b0_w1 b1_w1 c0_w1 c1_w1
  obtain rfl := hR2.1 h1.out
  clear hR2
  go_wp2_with fail
  refine (dec_add b sb c sc _).mono ?_
  rintro e w3 ⟨hR3, hb3⟩
  have a0_w3 : w3.cell? ⟨w.heap.size, 0, none⟩ = some (.int .i64 a) := carry hb3 (by go_simp)
  have a1_w3 : w3.cell? ⟨w.heap.size, 1, none⟩ = some (.int .i64 sa) := carry hb3 (by go_simp)
  have b0_w3 : w3.cell? ⟨w.heap.size + 1, 0, none⟩ = some (.int .i64 b) := carry hb3 (by go_simp)
  have b1_w3 : w3.cell? ⟨w.heap.size + 1, 1, none⟩ = some (.int .i64 sb) := carry hb3 (by go_simp)
  have c0_w3 : w3.cell? ⟨w.heap.size + 2, 0, none⟩ = some (.int .i64 c) := carry hb3 (by go_simp)
  have c1_w3 : w3.cell? ⟨w.heap.size + 2, 1, none⟩ = some (.int .i64 sc) := carry hb3 (by go_simp)
  have h0_w3 : w3.cell? ⟨w1.heap.size, 0, none⟩ = some (.int .i64 15) := carry hb3 (by go_simp)
  have h1_w3 : w3.cell? ⟨w1.heap.size, 1, none⟩ = some (.int .i64 1) := carry hb3 (by go_simp)
  have x0_w3 : w3.cell? ⟨w2.heap.size, 0, none⟩ = some (.int .i64 (addC a sa b sb)) := carry hb3 (by go_simp)
  have x1_w3 : w3.cell? ⟨w2.heap.size, 1, none⟩ = some (.int .i64 (max sa sb)) := carry hb3 (by go_simp)
  have qa0_w3 := lt_of_cell a0_w3
  have qb0_w3 := lt_of_cell b0_w3
  have qc0_w3 := lt_of_cell c0_w3
  have qh0_w3 := lt_of_cell h0_w3
  have qx0_w3 := lt_of_cell x0_w3
  have z3 : w2.heap.size < w3.heap.size := by have := hb3.size; first | omega | (simp at this; omega)
  clear a0_w2 a1_w2 b0_w2 b1_w2 c0_w2 c1_w2 h0_w2 h1_w2
  obtain rfl := hR3.1 h2.out
  clear hR3
  go_wp2_with fail
  refine (dec_add (addC a sa b sb) (max sa sb) c sc _).mono ?_
  rintro e w4 ⟨hR4, hb4⟩
  have a0_w4 : w4.cell? ⟨w.heap.size, 0, none⟩ = some (.int .i64 a) := carry hb4 (by go_simp)
  have a1_w4 : w4.cell? ⟨w.heap.size, 1, none⟩ = some (.int .i64 sa) := carry hb4 (by go_simp)
  have b0_w4 : w4.cell? ⟨w.heap.size + 1, 0, none⟩ = some (.int .i64 b) := carry hb4 (by go_simp)
  have b1_w4 : w4.cell? ⟨w.heap.size + 1, 1, none⟩ = some (.int .i64 sb) := carry hb4 (by go_simp)
  have c0_w4 : w4.cell? ⟨w.heap.size + 2, 0, none⟩ = some (.int .i64 c) := carry hb4 (by go_simp)
  have c1_w4 : w4.cell? ⟨w.heap.size + 2, 1, none⟩ = some (.int .i64 sc) := carry hb4 (by go_simp)
  have h0_w4 : w4.cell? ⟨w1.heap.size, 0, none⟩ = some (.int .i64 15) := carry hb4 (by go_simp)
  have h1_w4 : w4.cell? ⟨w1.heap.size, 1, none⟩ = some (.int .i64 1) := carry hb4 (by go_simp)
  have x0_w4 : w4.cell? ⟨w2.heap.size, 0, none⟩ = some (.int .i64 (addC a sa b sb)) := carry hb4 (by go_simp)
  have x1_w4 : w4.cell? ⟨w2.heap.size, 1, none⟩ = some (.int .i64 (max sa sb)) := carry hb4 (by go_simp)
  have y0_w4 : w4.cell? ⟨w3.heap.size, 0, none⟩ = some (.int .i64 (addC b sb c sc)) := carry hb4 (by go_simp)
  have y1_w4 : w4.cell? ⟨w3.heap.size, 1, none⟩ = some (.int .i64 (max sb sc)) := carry hb4 (by go_simp)
  have qa0_w4 := lt_of_cell a0_w4
  have qb0_w4 := lt_of_cell b0_w4
  have qc0_w4 := lt_of_cell c0_w4
  have qh0_w4 := lt_of_cell h0_w4
  have qx0_w4 := lt_of_cell x0_w4
  have qy0_w4 := lt_of_cell y0_w4
  have z4 : w3.heap.size < w4.heap.size := by have := hb4.size; first | omega | (simp at this; omega)
  clear a0_w3 a1_w3 b0_w3 b1_w3 c0_w3 c1_w3 h0_w3 h1_w3 x0_w3 x1_w3
  obtain rfl := hR4.1 h3.out
  clear hR4
  go_wp2_with fail
  refine (dec_add a sa (addC b sb c sc) (max sb sc) _).mono ?_
  rintro e w5 ⟨hR5, hb5⟩
  have a0_w5 : w5.cell? ⟨w.heap.size, 0, none⟩ = some (.int .i64 a) := carry hb5 (by go_simp)
  have a1_w5 : w5.cell? ⟨w.heap.size, 1, none⟩ = some (.int .i64 sa) := carry hb5 (by go_simp)
  have b0_w5 : w5.cell? ⟨w.heap.size + 1, 0, none⟩ = some (.int .i64 b) := carry hb5 (by go_simp)
  have b1_w5 : w5.cell? ⟨w.heap.size + 1, 1, none⟩ = some (.int .i64 sb) := carry hb5 (by go_simp)
  have c0_w5 : w5.cell? ⟨w.heap.size + 2, 0, none⟩ = some (.int .i64 c) := carry hb5 (by go_simp)
  have c1_w5 : w5.cell? ⟨w.heap.size + 2, 1, none⟩ = some (.int .i64 sc) := carry hb5 (by go_simp)
  have h0_w5 : w5.cell? ⟨w1.heap.size, 0, none⟩ = some (.int .i64 15) := carry hb5 (by go_simp)
  have h1_w5 : w5.cell? ⟨w1.heap.size, 1, none⟩ = some (.int .i64 1) := carry hb5 (by go_simp)
  have x0_w5 : w5.cell? ⟨w2.heap.size, 0, none⟩ = some (.int .i64 (addC a sa b sb)) := carry hb5 (by go_simp)
  have x1_w5 : w5.cell? ⟨w2.heap.size, 1, none⟩ = some (.int .i64 (max sa sb)) := carry hb5 (by go_simp)
  have y0_w5 : w5.cell? ⟨w3.heap.size, 0, none⟩ = some (.int .i64 (addC b sb c sc)) := carry hb5 (by go_simp)
  have y1_w5 : w5.cell? ⟨w3.heap.size, 1, none⟩ = some (.int .i64 (max sb sc)) := carry hb5 (by go_simp)
  have v0_w5 : w5.cell? ⟨w4.heap.size, 0, none⟩ = some (.int .i64 (addC (addC a sa b sb) (max sa sb) c sc)) := carry hb5 (by go_simp)
  have v1_w5 : w5.cell? ⟨w4.heap.size, 1, none⟩ = some (.int .i64 (max (max sa sb) sc)) := carry hb5 (by go_simp)
  have qa0_w5 := lt_of_cell a0_w5
  have qb0_w5 := lt_of_cell b0_w5
  have qc0_w5 := lt_of_cell c0_w5
  have qh0_w5 := lt_of_cell h0_w5
  have qx0_w5 := lt_of_cell x0_w5
  have qy0_w5 := lt_of_cell y0_w5
  have qv0_w5 := lt_of_cell v0_w5
  have z5 : w4.heap.size < w5.heap.size := by have := hb5.size; first | omega | (simp at this; omega)
  clear a0_w4 a1_w4 b0_w4 b1_w4 c0_w4 c1_w4 h0_w4 h1_w4 x0_w4 x1_w4 y0_w4 y1_w4
  obtain rfl := hR5.1 ((addOk_same h1.out h2.out).1 h3.out)
  rw [← add_same, show max sa (max sb sc) = max (max sa sb) sc by omega]
  clear hR5
  go_wp2_with fail
  have hT : ∀ W, Below w.heap.size w W → Calls Tryd.prog 15 #[.nilIface, .nilIface] W fun e w' => e = .returned (.bool true) ∧ Below W.heap.size W w' := by
    intro W hW
    exact same_told none none W (hE.out.below hW)
  have HT := Lib.hid hT
  clear hT
  refine (HT.out _ (by (repeat (first | with_reducible exact Below.refl _ _ | with_reducible refine bel_set ?_ ?_ | with_reducible refine bel_alloc ?_ ?_ | with_reducible refine Below.drew ?_ | with_reducible refine bel_drewN _ ?_ | with_reducible refine bel_call ?_ (by assumption) ?_)); all_goals (first | (simp; done) | omega | (simp; omega)))).mono ?_
  rintro e w6 ⟨rfl, hb6⟩
  have v0_w6 : w6.cell? ⟨w4.heap.size, 0, none⟩ = some (.int .i64 (addC (addC a sa b sb) (max sa sb) c sc)) := carry hb6 (by go_simp)
  have v1_w6 : w6.cell? ⟨w4.heap.size, 1, none⟩ = some (.int .i64 (max (max sa sb) sc)) := carry hb6 (by go_simp)
  have u0_w6 : w6.cell? ⟨w5.heap.size, 0, none⟩ = some (.int .i64 (addC (addC a sa b sb) (max sa sb) c sc)) := carry hb6 (by go_simp)
  have u1_w6 : w6.cell? ⟨w5.heap.size, 1, none⟩ = some (.int .i64 (max (max sa sb) sc)) := carry hb6 (by go_simp)
  have qv0_w6 := lt_of_cell v0_w6
  have qu0_w6 := lt_of_cell u0_w6
  have z6 : w5.heap.size < w6.heap.size := by have := hb6.size; first | omega | (simp at this; omega)
  clear a0_w5 a1_w5 b0_w5 b1_w5 c0_w5 c1_w5 h0_w5 h1_w5 x0_w5 x1_w5 y0_w5 y1_w5 v0_w5 v1_w5
  go_wp2_with fail
  go_ret
  exact ⟨rfl, (by (repeat (first | with_reducible exact Below.refl _ _ | with_reducible refine bel_set ?_ ?_ | with_reducible refine bel_alloc ?_ ?_ | with_reducible refine Below.drew ?_ | with_reducible refine bel_drewN _ ?_ | with_reducible refine bel_call ?_ (by assumption) ?_)); all_goals (first | (simp; done) | omega | (simp; omega)))⟩

set_option maxHeartbeats 1000000 in
theorem decThree_no (a sa b sb c sc : Int) (w : World) (h1 : Hid (addOk a sa b sb)) (h2 : Hid (addOk b sb c sc)) (h3 : Hid (¬ addOk (addC a sa b sb) (max sa sb) c sc)) (hE : Hid (ErrT w)) :
    Calls Tryd.prog 5 #[decV a sa, decV b sb, decV c sc] w fun e w' => e = .returned (.bool true) ∧ Below w.heap.size w w' := by
  go_enter Tryd.func5, Tryd.ntmps5
  go_wp2_with fail
  refine (dec_fact _).mono ?_
  rintro e w1 ⟨rfl, hb1⟩
  have a0_w1 : w1.cell? ⟨w.heap.size, 0, none⟩ = some (.int .i64 a) := carry hb1 (by go_simp)
  have a1_w1 : w1.cell? ⟨w.heap.size, 1, none⟩ = some (.int .i64 sa) := carry hb1 (by go_simp)
  have b0_w1 : w1.cell? ⟨w.heap.size + 1, 0, none⟩ = some (.int .i64 b) := carry hb1 (by go_simp)
  have b1_w1 : w1.cell? ⟨w.heap.size + 1, 1, none⟩ = some (.int .i64 sb) := carry hb1 (by go_simp)
  have c0_w1 : w1.cell? ⟨w.heap.size + 2, 0, none⟩ = some (.int .i64 c) := carry hb1 (by go_simp)
  have c1_w1 : w1.cell? ⟨w.heap.size + 2, 1, none⟩ = some (.int .i64 sc) := carry hb1 (by go_simp)
  have qa0_w1 := lt_of_cell a0_w1
  have qb0_w1 := lt_of_cell b0_w1
  have qc0_w1 := lt_of_cell c0_w1
  have z1 : w.heap.size + 2 < w1.heap.size := by have := hb1.size; first | omega | (simp at this; omega)
  go_wp2_with fail
  refine (dec_add a sa b sb _).mono ?_
  rintro e w2 ⟨hR2, hb2⟩
  have a0_w2 : w2.cell? ⟨w.heap.size, 0, none⟩ = some (.int .i64 a) := carry hb2 (by go_simp)
  have a1_w2 : w2.cell? ⟨w.heap.size, 1, none⟩ = some (.int .i64 sa) := carry hb2 (by go_simp)
  have b0_w2 : w2.cell? ⟨w.heap.size + 1, 0, none⟩ = some (.int .i64 b) := carry hb2 (by go_simp)
  have b1_w2 : w2.cell? ⟨w.heap.size + 1, 1, none⟩ = some (.int .i64 sb) := carry hb2 (by go_simp)
  have c0_w2 : w2.cell? ⟨w.heap.size + 2, 0, none⟩ = some (.int .i64 c) := carry hb2 (by go_simp)
  have c1_w2 : w2.cell? ⟨w.heap.size + 2, 1, none⟩ = some (.int .i64 sc) := carry hb2 (by go_simp)
  have h0_w2 : w2.cell? ⟨w1.heap.size, 0, none⟩ = some (.int .i64 15) := carry hb2 (by go_simp)
  have h1_w2 : w2.cell? ⟨w1.heap.size, 1, none⟩ = some (.int .i64 1) := carry hb2 (by go_simp)
  have qa0_w2 := lt_of_cell a0_w2
  have qb0_w2 := lt_of_cell b0_w2
  have qc0_w2 := lt_of_cell c0_w2
  have qh0_w2 := lt_of_cell h0_w2
  have z2 : w1.heap.size < w2.heap.size := by have := hb2.size; first | omega | (simp at this; omega)
  clear a0_w1 a1_w1 b0_w1 b1_w1 c0_w1 c1_w1
  obtain rfl := hR2.1 h1.out
  clear hR2
  go_wp2_with fail
  refine (dec_add b sb c sc _).mono ?_
  rintro e w3 ⟨hR3, hb3⟩
  have a0_w3 : w3.cell? ⟨w.heap.size, 0, none⟩ = some (.int .i64 a) := carry hb3 (by go_simp)
  have a1_w3 : w3.cell? ⟨w.heap.size, 1, none⟩ = some (.int .i64 sa) := carry hb3 (by go_simp)
  have b0_w3 : w3.cell? ⟨w.heap.size + 1, 0, none⟩ = some (.int .i64 b) := carry hb3 (by go_simp)
  have b1_w3 : w3.cell? ⟨w.heap.size + 1, 1, none⟩ = some (.int .i64 sb) := carry hb3 (by go_simp)
  have c0_w3 : w3.cell? ⟨w.heap.size + 2, 0, none⟩ = some (.int .i64 c) := carry hb3 (by go_simp)
  have c1_w3 : w3.cell? ⟨w.heap.size + 2, 1, none⟩ = some (.int .i64 sc) := carry hb3 (by go_simp)
  have h0_w3 : w3.cell? ⟨w1.heap.size, 0, none⟩ = some (.int .i64 15) := carry hb3 (by go_simp)
  have h1_w3 : w3.cell? ⟨w1.heap.size, 1, none⟩ = some (.int .i64 1) := carry hb3 (by go_simp)
  have x0_w3 : w3.cell? ⟨w2.heap.size, 0, none⟩ = some (.int .i64 (addC a sa b sb)) := carry hb3 (by go_simp)
  have x1_w3 : w3.cell? ⟨w2.heap.size, 1, none⟩ = some (.int .i64 (max sa sb)) := carry hb3 (by go_simp)
  have qa0_w3 := lt_of_cell a0_w3
  have qb0_w3 := lt_of_cell b0_w3
  have qc0_w3 := lt_of_cell c0_w3
  have qh0_w3 := lt_of_cell h0_w3
  have qx0_w3 := lt_of_cell x0_w3
  have z3 : w2.heap.size < w3.heap.size := by have := hb3.size; first | omega | (simp at this; omega)
  clear a0_w2 a1_w2 b0_w2 b1_w2 c0_w2 c1_w2 h0_w2 h1_w2
  obtain rfl := hR3.1 h2.out
  clear hR3
  go_wp2_with fail
  refine (dec_add (addC a sa b sb) (max sa sb) c sc _).mono ?_
  rintro e w4 ⟨hR4, hb4⟩
  have a0_w4 : w4.cell? ⟨w.heap.size, 0, none⟩ = some (.int .i64 a) := carry hb4 (by go_simp)
  have a1_w4 : w4.cell? ⟨w.heap.size, 1, none⟩ = some (.int .i64 sa) := carry hb4 (by go_simp)
  have b0_w4 : w4.cell? ⟨w.heap.size + 1, 0, none⟩ = some (.int .i64 b) := carry hb4 (by go_simp)
  have b1_w4 : w4.cell? ⟨w.heap.size + 1, 1, none⟩ = some (.int .i64 sb) := carry hb4 (by go_simp)
  have c0_w4 : w4.cell? ⟨w.heap.size + 2, 0, none⟩ = some (.int .i64 c) := carry hb4 (by go_simp)
  have c1_w4 : w4.cell? ⟨w.heap.size + 2, 1, none⟩ = some (.int .i64 sc) := carry hb4 (by go_simp)
  have h0_w4 : w4.cell? ⟨w1.heap.size, 0, none⟩ = some (.int .i64 15) := carry hb4 (by go_simp)
  have h1_w4 : w4.cell? ⟨w1.heap.size, 1, none⟩ = some (.int .i64 1) := carry hb4 (by go_simp)
  have x0_w4 : w4.cell? ⟨w2.heap.size, 0, none⟩ = some (.int .i64 (addC a sa b sb)) := carry hb4 (by go_simp)
  have x1_w4 : w4.cell? ⟨w2.heap.size, 1, none⟩ = some (.int .i64 (max sa sb)) := carry hb4 (by go_simp)
  have y0_w4 : w4.cell? ⟨w3.heap.size, 0, none⟩ = some (.int .i64 (addC b sb c sc)) := carry hb4 (by go_simp)
  have y1_w4 : w4.cell? ⟨w3.heap.size, 1, none⟩ = some (.int .i64 (max sb sc)) := carry hb4 (by go_simp)
  have qa0_w4 := lt_of_cell a0_w4
  have qb0_w4 := lt_of_cell b0_w4
  have qc0_w4 := lt_of_cell c0_w4
  have qh0_w4 := lt_of_cell h0_w4
  have qx0_w4 := lt_of_cell x0_w4
  have qy0_w4 := lt_of_cell y0_w4
  have z4 : w3.heap.size < w4.heap.size := by have := hb4.size; first | omega | (simp at this; omega)
  clear a0_w3 a1_w3 b0_w3 b1_w3 c0_w3 c1_w3 h0_w3 h1_w3 x0_w3 x1_w3
  obtain rfl := hR4.2 h3.out
  clear hR4
  go_wp2_with fail
  refine (dec_add a sa (addC b sb c sc) (max sb sc) _).mono ?_
  rintro e w5 ⟨hR5, hb5⟩
  have a0_w5 : w5.cell? ⟨w.heap.size, 0, none⟩ = some (.int .i64 a) := carry hb5 (by go_simp)
  have a1_w5 : w5.cell? ⟨w.heap.size, 1, none⟩ = some (.int .i64 sa) := carry hb5 (by go_simp)
  have b0_w5 : w5.cell? ⟨w.heap.size + 1, 0, none⟩ = some (.int .i64 b) := carry hb5 (by go_simp)
  have b1_w5 : w5.cell? ⟨w.heap.size + 1, 1, none⟩ = some (.int .i64 sb) := carry hb5 (by go_simp)
  have c0_w5 : w5.cell? ⟨w.heap.size + 2, 0, none⟩ = some (.int .i64 c) := carry hb5 (by go_simp)
  have c1_w5 : w5.cell? ⟨w.heap.size + 2, 1, none⟩ = some (.int .i64 sc) := carry hb5 (by go_simp)
  have h0_w5 : w5.cell? ⟨w1.heap.size, 0, none⟩ = some (.int .i64 15) := carry hb5 (by go_simp)
  have h1_w5 : w5.cell? ⟨w1.heap.size, 1, none⟩ = some (.int .i64 1) := carry hb5 (by go_simp)
  have x0_w5 : w5.cell? ⟨w2.heap.size, 0, none⟩ = some (.int .i64 (addC a sa b sb)) := carry hb5 (by go_simp)
  have x1_w5 : w5.cell? ⟨w2.heap.size, 1, none⟩ = some (.int .i64 (max sa sb)) := carry hb5 (by go_simp)
  have y0_w5 : w5.cell? ⟨w3.heap.size, 0, none⟩ = some (.int .i64 (addC b sb c sc)) := carry hb5 (by go_simp)
  have y1_w5 : w5.cell? ⟨w3.heap.size, 1, none⟩ = some (.int .i64 (max sb sc)) := carry hb5 (by go_simp)
  have v0_w5 : w5.cell? ⟨w4.heap.size, 0, none⟩ = some (.int .i64 0) := carry hb5 (by go_simp)
  have v1_w5 : w5.cell? ⟨w4.heap.size, 1, none⟩ = some (.int .i64 0) := carry hb5 (by go_simp)
  have qa0_w5 := lt_of_cell a0_w5
  have qb0_w5 := lt_of_cell b0_w5
  have qc0_w5 := lt_of_cell c0_w5
  have qh0_w5 := lt_of_cell h0_w5
  have qx0_w5 := lt_of_cell x0_w5
  have qy0_w5 := lt_of_cell y0_w5
  have qv0_w5 := lt_of_cell v0_w5
  have z5 : w4.heap.size < w5.heap.size := by have := hb5.size; first | omega | (simp at this; omega)
  clear a0_w4 a1_w4 b0_w4 b1_w4 c0_w4 c1_w4 h0_w4 h1_w4 x0_w4 x1_w4 y0_w4 y1_w4
  obtain rfl := hR5.2 (fun h => h3.out ((addOk_same h1.out h2.out).2 h))
  clear hR5
  go_wp2_with fail
  have hT : ∀ W, Below w.heap.size w W → Calls Tryd.prog 15 #[errV 1, errV 1] W fun e w' => e = .returned (.bool true) ∧ Below W.heap.size W w' := by
    intro W hW
    exact same_told (some 1) (some 1) W (hE.out.below hW)
  have HT := Lib.hid hT
  clear hT
  refine (HT.out _ (by (repeat (first | with_reducible exact Below.refl _ _ | with_reducible refine bel_set ?_ ?_ | with_reducible refine bel_alloc ?_ ?_ | with_reducible refine Below.drew ?_ | with_reducible refine bel_drewN _ ?_ | with_reducible refine bel_call ?_ (by assumption) ?_)); all_goals (first | (simp; done) | omega | (simp; omega)))).mono ?_
  rintro e w6 ⟨rfl, hb6⟩
  have v0_w6 : w6.cell? ⟨w4.heap.size, 0, none⟩ = some (.int .i64 0) := carry hb6 (by go_simp)
  have v1_w6 : w6.cell? ⟨w4.heap.size, 1, none⟩ = some (.int .i64 0) := carry hb6 (by go_simp)
  have u0_w6 : w6.cell? ⟨w5.heap.size, 0, none⟩ = some (.int .i64 0) := carry hb6 (by go_simp)
  have u1_w6 : w6.cell? ⟨w5.heap.size, 1, none⟩ = some (.int .i64 0) := carry hb6 (by go_simp)
  have qv0_w6 := lt_of_cell v0_w6
  have qu0_w6 := lt_of_cell u0_w6
  have z6 : w5.heap.size < w6.heap.size := by have := hb6.size; first | omega | (simp at this; omega)
  clear a0_w5 a1_w5 b0_w5 b1_w5 c0_w5 c1_w5 h0_w5 h1_w5 x0_w5 x1_w5 y0_w5 y1_w5 v0_w5 v1_w5
  go_wp2_with fail
  go_ret
  exact ⟨rfl, (by (repeat (first | with_reducible exact Below.refl _ _ | with_reducible refine bel_set ?_ ?_ | with_reducible refine bel_alloc ?_ ?_ | with_reducible refine Below.drew ?_ | with_reducible refine bel_drewN _ ?_ | with_reducible refine bel_call ?_ (by assumption) ?_)); all_goals (first | (simp; done) | omega | (simp; omega)))⟩

theorem walk3 (a sa b sb c sc : Int) (w : World) (hE : ErrT w) :
    Calls Tryd.prog 5 #[decV a sa, decV b sb, decV c sc] w fun e w' => e = .returned (.bool true) ∧ Below w.heap.size w w' := by
  by_cases h1 : addOk a sa b sb
  · by_cases h2 : addOk b sb c sc
    · by_cases h3 : addOk (addC a sa b sb) (max sa sb) c sc
      · exact decThree_ok a sa b sb c sc w (Lib.hid h1) (Lib.hid h2) (Lib.hid h3) (Lib.hid hE)
      · exact decThree_no a sa b sb c sc w (Lib.hid h1) (Lib.hid h2) (Lib.hid h3) (Lib.hid hE)
    · exact decThree_bc a sa b sb c sc w (Lib.hid h1) (Lib.hid h2)
  · exact decThree_ab a sa b sb c sc w (Lib.hid h1)
end Go.Proofs.YtbbafdhgoekdiaaDoor
