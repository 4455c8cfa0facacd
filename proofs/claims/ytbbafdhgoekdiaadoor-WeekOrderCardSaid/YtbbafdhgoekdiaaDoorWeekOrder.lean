/- WeekOrder: the law's walk. -/
import Derived.Test.YtbbafdhgoekdiaaDoorWeekText
namespace Go.Proofs.YtbbafdhgoekdiaaDoor
open Go.RowKit

theorem weekT_len (y k d : Nat) : (weekT y k d).length = 10 := by
  unfold weekT
  simp only [List.length_append, padD_len, List.length_cons, List.length_nil]
theorem weekT_less (y k d y' k' d' : Nat) (hy : y < 10000) (hk : k < 100) (hd : d < 10) (hy' : y' < 10000) (hk' : k' < 100) (hd' : d' < 10) :
    Op.bytesLess (weekT y k d) (weekT y' k' d') = true ↔ (y < y' ∨ (y = y' ∧ (k < k' ∨ (k = k' ∧ d < d')))) := by
  unfold weekT
  rw [padD_less 4 y y' _ _ (by omega) (by omega), less_same, padD_less 2 k k' _ _ (by omega) (by omega), less_same]
  have := padD_less 1 d d' [] [] (by omega) (by omega)
  rw [List.append_nil, List.append_nil] at this
  rw [this]
  simp [Op.bytesLess]

theorem firstV_mono (y : Int) (h : 1 ≤ y) : firstV y + 7 * weeksV y = firstV (y + 1) := by
  have := weeksV_bd y h
  unfold weeksV firstV at *
  omega
theorem firstV_le (y z : Int) (h : 1 ≤ y) (hz : y ≤ z) : firstV y ≤ firstV z := by
  obtain ⟨k, rfl⟩ : ∃ k : Nat, z = y + k := ⟨(z - y).toNat, by omega⟩
  clear hz
  induction k with
  | zero => simp
  | succ k ih =>
    have h1 := firstV_mono (y + k) (by omega)
    have h2 := weeksV_bd (y + k) (by omega)
    rw [show y + ((k + 1 : Nat) : Int) = y + k + 1 by omega]
    omega

/-- What week.Of tells is right, and in order. -/
theorem wk_right (y m d : Int) (h : dateOk y m d) : ∃ Y K D : Nat, wkY y (numV y m d) = Y ∧ wkW y (numV y m d) = K ∧ wkD (numV y m d) = D ∧ 1 ≤ Y ∧ Y ≤ 9999 ∧ 1 ≤ K ∧ (K : Int) ≤ weeksV Y ∧ 1 ≤ D ∧ D ≤ 7 ∧
    numV y m d = firstV Y + 7 * ((K : Int) - 1) + D - 1 ∧ numV y m d < 3652059 := by
  obtain ⟨k1, k2, k3, k4, k5⟩ := wkY_facts y m d h
  have hb := numV_bd y m d h
  have hn : numV y m d < 3652059 := by
    have h1 := h.1
    have h2 := h.2.1
    have : yearV (y + 1) ≤ yearV 10000 := by unfold yearV; omega
    have e : yearV 10000 = 3652059 := by decide
    omega
  have hW : wkW y (numV y m d) = (numV y m d - firstV (wkY y (numV y m d))) / 7 + 1 := rfl
  have hD : wkD (numV y m d) = numV y m d % 7 + 1 := rfl
  have h2 := h.2.1
  generalize wkY y (numV y m d) = Y at *
  generalize wkW y (numV y m d) = K at *
  generalize wkD (numV y m d) = D at *
  generalize numV y m d = n at *
  have f0 := firstV_bd Y k1 (by omega)
  have f7 : firstV Y % 7 = 0 := by unfold firstV; omega
  have hY : Y ≤ 9999 := by
    rcases Int.lt_or_le Y 10000 with h0 | h0
    · omega
    · obtain rfl : Y = 10000 := by omega
      have e : firstV 10000 = 3652061 := by decide
      omega
  have hnx : n < firstV (Y + 1) := by
    rcases Int.lt_or_le Y (y + 1) with h0 | h0
    · exact k5 (Y + 1) (by omega) (by omega)
    · obtain rfl : Y = y + 1 := by omega
      have := hb.2
      unfold firstV
      have e1 : yearV (y + 1) < yearV (y + 1 + 1) := by unfold yearV; omega
      have e2 : yearV (y + 1) + 365 ≤ yearV (y + 1 + 1) := by unfold yearV; omega
      omega
  have hm := firstV_mono Y k1
  refine ⟨Y.toNat, K.toNat, D.toNat, by omega, by omega, by omega, by omega, by omega, by omega, ?_, by omega, by omega, ?_, hn⟩
  · rw [show ((Y.toNat : Nat) : Int) = Y by omega]; omega
  · rw [show ((Y.toNat : Nat) : Int) = Y by omega]; omega

theorem wk_order (n m : Int) (Y K D Y' K' D' : Nat) (h1 : 1 ≤ Y) (h2 : Y ≤ 9999) (k1 : 1 ≤ K) (k2 : (K : Int) ≤ weeksV Y) (d1 : 1 ≤ D) (d2 : D ≤ 7) (hn : n = firstV Y + 7 * ((K : Int) - 1) + D - 1)
    (h1' : 1 ≤ Y') (h2' : Y' ≤ 9999) (k1' : 1 ≤ K') (k2' : (K' : Int) ≤ weeksV Y') (d1' : 1 ≤ D') (d2' : D' ≤ 7) (hm : m = firstV Y' + 7 * ((K' : Int) - 1) + D' - 1) :
    decide (n < m) = Op.bytesLess (weekT Y K D) (weekT Y' K' D') := by
  have b1 := weeksV_bd Y (by omega)
  have b2 := weeksV_bd Y' (by omega)
  have e1 := firstV_mono Y (by omega)
  have e2 := firstV_mono Y' (by omega)
  have hl := weekT_less Y K D Y' K' D' (by omega) (by omega) (by omega) (by omega) (by omega) (by omega)
  have key : n < m ↔ (Y < Y' ∨ (Y = Y' ∧ (K < K' ∨ (K = K' ∧ D < D')))) := by
    rcases Nat.lt_trichotomy Y Y' with h | h | h
    · have := firstV_le (Y + 1) Y' (by omega) (by omega)
      constructor
      · intro _; exact .inl h
      · intro _; omega
    · subst h
      constructor
      · intro _; right; refine ⟨rfl, ?_⟩; omega
      · intro h; omega
    · have := firstV_le (Y' + 1) Y (by omega) (by omega)
      constructor
      · intro _; omega
      · intro _; omega
  rw [Bool.eq_iff_iff, decide_eq_true_eq, hl, key]

set_option maxHeartbeats 1000000 in
theorem order_ok (y m d y' m' d' : Int) (w : World) (hA : Ahead w) (hP : Pow w) (h : dateOk y m d) (h' : dateOk y' m' d') :
    Calls Tryd.prog 9 #[dateV y m d, dateV y' m' d'] w fun e w' => e = .returned (.bool true) ∧ Below w.heap.size w w' := by
  obtain ⟨Y, K, D, e1, e2, e3, a1, a2, a3, a4, a5, a6, a7, a8⟩ := wk_right y m d h
  obtain ⟨Y', K', D', e1', e2', e3', a1', a2', a3', a4', a5', a6', a7', a8'⟩ := wk_right y' m' d' h'
  have HO := Lib.hid (wk_order _ _ Y K D Y' K' D' a1 a2 a3 a4 a5 a6 a7 a1' a2' a3' a4' a5' a6' a7')
  have HN := Lib.hid (fun w hA => date_number_ok y m d w hA h)
  have HN' := Lib.hid (fun w hA => date_number_ok y' m' d' w hA h')
  have hW := fun w hA => week_of_ok y m d w hA h
  have hW' := fun w hA => week_of_ok y' m' d' w hA h'
  simp only [e1, e2, e3] at hW
  simp only [e1', e2', e3'] at hW'
  have HW := Lib.hid hW
  have HW' := Lib.hid hW'
  have HT := Lib.hid (fun w hA hP => week_text Y K D w hA hP a1 a2 a3 a4 a5 a6 (by rw [← a7]; exact a8))
  have HT' := Lib.hid (fun w hA hP => week_text Y' K' D' w hA hP a1' a2' a3' a4' a5' a6' (by rw [← a7']; exact a8'))
  have l1 := weekT_len Y K D
  have HA := Lib.hid hA
  have HP := Lib.hid hP
  have HWE := Lib.hid (week_weeks_ok 2020)
  have w53 : weeksV 2020 = 53 := by decide
  clear hW hW' e1 e2 e3 e1' e2' e3' a1 a2 a3 a4 a5 a6 a7 a8 a1' a2' a3' a4' a5' a6' a7' a8' h h' hA hP
  generalize weekT Y K D = T at *
  generalize weekT Y' K' D' = T' at *
  generalize numV y m d = n at *
  generalize numV y' m' d' = n' at *
  go_enter Tryd.func9, Tryd.ntmps9
  go_wp2_with fail
  refine (HWE.out _ (by omega) (by omega)).mono ?_
  rw [w53]
  rintro e wz ⟨rfl, rfl⟩
  have HA0 := Lib.hid ((HA.out.alloc (.cells #[.int .i64 y, .int .i64 m, .int .i64 d] 27)).alloc (.cells #[.int .i64 y', .int .i64 m', .int .i64 d'] 27))
  have HP0 := Lib.hid ((HP.out.alloc (.cells #[.int .i64 y, .int .i64 m, .int .i64 d] 27)).alloc (.cells #[.int .i64 y', .int .i64 m', .int .i64 d'] 27))
  go_wp2_with fail
  refine (HN.out _ HA0.out).mono ?_
  rintro e w1 ⟨rfl, h1⟩
  have s1 := h1.size
  simp at s1
  have HA1 := Lib.hid (HA0.out.below h1)
  have HP1 := Lib.hid (HP0.out.below h1)
  have a0_w1 : w1.cell? ⟨w.heap.size, 0, none⟩ = some (.int .i64 y) := carry h1 (by go_simp)
  have a1_w1 : w1.cell? ⟨w.heap.size, 1, none⟩ = some (.int .i64 m) := carry h1 (by go_simp)
  have a2_w1 : w1.cell? ⟨w.heap.size, 2, none⟩ = some (.int .i64 d) := carry h1 (by go_simp)
  have b0_w1 : w1.cell? ⟨w.heap.size + 1, 0, none⟩ = some (.int .i64 y') := carry h1 (by go_simp)
  have b1_w1 : w1.cell? ⟨w.heap.size + 1, 1, none⟩ = some (.int .i64 m') := carry h1 (by go_simp)
  have b2_w1 : w1.cell? ⟨w.heap.size + 1, 2, none⟩ = some (.int .i64 d') := carry h1 (by go_simp)
  go_wp2_with fail
  refine (HN'.out _ HA1.out).mono ?_
  rintro e w2 ⟨rfl, h2⟩
  have s2 := h2.size
  have HA2 := Lib.hid (HA1.out.below h2)
  have HP2 := Lib.hid (HP1.out.below h2)
  have a0_w2 : w2.cell? ⟨w.heap.size, 0, none⟩ = some (.int .i64 y) := carry h2 (by go_simp)
  have a1_w2 : w2.cell? ⟨w.heap.size, 1, none⟩ = some (.int .i64 m) := carry h2 (by go_simp)
  have a2_w2 : w2.cell? ⟨w.heap.size, 2, none⟩ = some (.int .i64 d) := carry h2 (by go_simp)
  have b0_w2 : w2.cell? ⟨w.heap.size + 1, 0, none⟩ = some (.int .i64 y') := carry h2 (by go_simp)
  have b1_w2 : w2.cell? ⟨w.heap.size + 1, 1, none⟩ = some (.int .i64 m') := carry h2 (by go_simp)
  have b2_w2 : w2.cell? ⟨w.heap.size + 1, 2, none⟩ = some (.int .i64 d') := carry h2 (by go_simp)
  clear a0_w1 a1_w1 a2_w1 b0_w1 b1_w1 b2_w1
  go_wp2_with fail
  refine (HW.out _ HA2.out).mono ?_
  rintro e w3 ⟨rfl, h3⟩
  have s3 := h3.size
  have HA3 := Lib.hid ((HA2.out.below h3).alloc (.cells #[.int .i64 Y, .int .i64 K, .int .i64 D] 32))
  have HP3 := Lib.hid ((HP2.out.below h3).alloc (.cells #[.int .i64 Y, .int .i64 K, .int .i64 D] 32))
  have b0_w3 : w3.cell? ⟨w.heap.size + 1, 0, none⟩ = some (.int .i64 y') := carry h3 (by go_simp)
  have b1_w3 : w3.cell? ⟨w.heap.size + 1, 1, none⟩ = some (.int .i64 m') := carry h3 (by go_simp)
  have b2_w3 : w3.cell? ⟨w.heap.size + 1, 2, none⟩ = some (.int .i64 d') := carry h3 (by go_simp)
  clear a0_w2 a1_w2 a2_w2 b0_w2 b1_w2 b2_w2
  have q3 := lt_of_cell b0_w3
  go_wp2_with fail
  refine (HW'.out _ HA3.out).mono ?_
  rintro e w4 ⟨rfl, h4⟩
  have s4 := h4.size
  simp at s4
  have HA4 := Lib.hid ((HA3.out.below h4).alloc (.cells #[.int .i64 Y', .int .i64 K', .int .i64 D'] 32))
  have HP4 := Lib.hid ((HP3.out.below h4).alloc (.cells #[.int .i64 Y', .int .i64 K', .int .i64 D'] 32))
  have v0_w4 : w4.cell? ⟨w3.heap.size, 0, none⟩ = some (.int .i64 Y) := carry h4 (by go_simp)
  have v1_w4 : w4.cell? ⟨w3.heap.size, 1, none⟩ = some (.int .i64 K) := carry h4 (by go_simp)
  have v2_w4 : w4.cell? ⟨w3.heap.size, 2, none⟩ = some (.int .i64 D) := carry h4 (by go_simp)
  clear b0_w3 b1_w3 b2_w3
  have q4 := lt_of_cell v0_w4
  go_wp2_with fail
  refine (HT.out _ HA4.out HP4.out).mono ?_
  rintro e w5 ⟨rfl, h5⟩
  have s5 := h5.size
  simp at s5
  have HA5 := Lib.hid (HA4.out.below h5)
  have HP5 := Lib.hid (HP4.out.below h5)
  have u0_w5 : w5.cell? ⟨w4.heap.size, 0, none⟩ = some (.int .i64 Y') := carry h5 (by go_simp)
  have u1_w5 : w5.cell? ⟨w4.heap.size, 1, none⟩ = some (.int .i64 K') := carry h5 (by go_simp)
  have u2_w5 : w5.cell? ⟨w4.heap.size, 2, none⟩ = some (.int .i64 D') := carry h5 (by go_simp)
  clear v0_w4 v1_w4 v2_w4
  have q5 := lt_of_cell u0_w5
  go_wp2_with fail
  refine (HT'.out _ HA5.out HP5.out).mono ?_
  rintro e w6 ⟨rfl, h6⟩
  have s6 := h6.size
  clear u0_w5 u1_w5 u2_w5
  have ho := HO.out
  have r1 : ∀ W : World, (Op.stringOp .lss ⟨T.toArray⟩ ⟨T'.toArray⟩).run Tryd.prog W = .ok (.bool (Op.bytesLess T T')) W := fun W => by
    simp only [Op.stringOp, Lib.toList_data]
    rfl
  have r2 : (n < n') = (Op.bytesLess T T' = true) := by rw [← ho]; simp
  go_wp2_with fail
  all_goals go_ret
  all_goals exact ⟨rfl, (by (repeat (first | with_reducible exact Below.refl _ _ | with_reducible refine bel_set ?_ ?_ | with_reducible refine bel_alloc ?_ ?_ | with_reducible refine Below.drew ?_ | with_reducible refine bel_drewN _ ?_ | with_reducible refine bel_call ?_ (by assumption) ?_)); all_goals (first | (simp; done) | omega | (simp; omega)))⟩


set_option maxHeartbeats 1000000 in
theorem order_bad1 (y m d y' m' d' : Int) (w : World) (hA : Ahead w) (h : ¬ dateOk y m d) (h' : ¬ dateOk y' m' d') :
    Calls Tryd.prog 9 #[dateV y m d, dateV y' m' d'] w fun e w' => e = .returned (.bool true) ∧ Below w.heap.size w w' := by
  have HWE := Lib.hid (week_weeks_ok 2020)
  have w53 : weeksV 2020 = 53 := by decide
  have HA := Lib.hid hA
  have HNA := Lib.hid (fun w hA => date_number_no y m d w hA h)
  have HWA := Lib.hid (fun w hA => week_of_no y m d w hA h)
  have HNB := Lib.hid (fun w hA => date_number_no y' m' d' w hA h')
  have HWB := Lib.hid (fun w hA => week_of_no y' m' d' w hA h')
  clear h h' hA
  go_enter Tryd.func9, Tryd.ntmps9
  go_wp2_with fail
  refine (HWE.out _ (by omega) (by omega)).mono ?_
  rw [w53]
  rintro e wz ⟨rfl, rfl⟩
  have HA0 := Lib.hid ((HA.out.alloc (.cells #[.int .i64 y, .int .i64 m, .int .i64 d] 27)).alloc (.cells #[.int .i64 y', .int .i64 m', .int .i64 d'] 27))
  go_wp2_with fail
  refine (HNA.out _ HA0.out).mono ?_
  rintro e w1 ⟨rfl, h1⟩
  have s1 := h1.size
  simp at s1
  have HA1 := Lib.hid (HA0.out.below h1)
  have a0_w1 : w1.cell? ⟨w.heap.size, 0, none⟩ = some (.int .i64 y) := carry h1 (by go_simp)
  have a1_w1 : w1.cell? ⟨w.heap.size, 1, none⟩ = some (.int .i64 m) := carry h1 (by go_simp)
  have a2_w1 : w1.cell? ⟨w.heap.size, 2, none⟩ = some (.int .i64 d) := carry h1 (by go_simp)
  have b0_w1 : w1.cell? ⟨w.heap.size + 1, 0, none⟩ = some (.int .i64 y') := carry h1 (by go_simp)
  have b1_w1 : w1.cell? ⟨w.heap.size + 1, 1, none⟩ = some (.int .i64 m') := carry h1 (by go_simp)
  have b2_w1 : w1.cell? ⟨w.heap.size + 1, 2, none⟩ = some (.int .i64 d') := carry h1 (by go_simp)
  go_wp2_with fail
  refine (HNB.out _ HA1.out).mono ?_
  rintro e w2 ⟨rfl, h2⟩
  have s2 := h2.size
  have HA2 := Lib.hid (HA1.out.below h2)
  have a0_w2 : w2.cell? ⟨w.heap.size, 0, none⟩ = some (.int .i64 y) := carry h2 (by go_simp)
  have a1_w2 : w2.cell? ⟨w.heap.size, 1, none⟩ = some (.int .i64 m) := carry h2 (by go_simp)
  have a2_w2 : w2.cell? ⟨w.heap.size, 2, none⟩ = some (.int .i64 d) := carry h2 (by go_simp)
  have b0_w2 : w2.cell? ⟨w.heap.size + 1, 0, none⟩ = some (.int .i64 y') := carry h2 (by go_simp)
  have b1_w2 : w2.cell? ⟨w.heap.size + 1, 1, none⟩ = some (.int .i64 m') := carry h2 (by go_simp)
  have b2_w2 : w2.cell? ⟨w.heap.size + 1, 2, none⟩ = some (.int .i64 d') := carry h2 (by go_simp)
  clear a0_w1 a1_w1 a2_w1 b0_w1 b1_w1 b2_w1
  go_wp2_with fail
  refine (HWA.out _ HA2.out).mono ?_
  rintro e w3 ⟨rfl, h3⟩
  have s3 := h3.size
  have HA3 := Lib.hid ((HA2.out.below h3).alloc (.cells #[.int .i64 0, .int .i64 0, .int .i64 0] 32))
  have b0_w3 : w3.cell? ⟨w.heap.size + 1, 0, none⟩ = some (.int .i64 y') := carry h3 (by go_simp)
  have b1_w3 : w3.cell? ⟨w.heap.size + 1, 1, none⟩ = some (.int .i64 m') := carry h3 (by go_simp)
  have b2_w3 : w3.cell? ⟨w.heap.size + 1, 2, none⟩ = some (.int .i64 d') := carry h3 (by go_simp)
  clear a0_w2 a1_w2 a2_w2 b0_w2 b1_w2 b2_w2
  have q3 := lt_of_cell b0_w3
  go_wp2_with fail
  refine (HWB.out _ HA3.out).mono ?_
  rintro e w4 ⟨rfl, h4⟩
  have s4 := h4.size
  simp at s4
  clear b0_w3 b1_w3 b2_w3
  go_wp2_with fail
  all_goals go_ret
  all_goals exact ⟨rfl, (by (repeat (first | with_reducible exact Below.refl _ _ | with_reducible refine bel_set ?_ ?_ | with_reducible refine bel_alloc ?_ ?_ | with_reducible refine Below.drew ?_ | with_reducible refine bel_drewN _ ?_ | with_reducible refine bel_call ?_ (by assumption) ?_)); all_goals (first | (simp; done) | omega | (simp; omega)))⟩

set_option maxHeartbeats 1000000 in
theorem order_bad2 (y m d y' m' d' : Int) (w : World) (hA : Ahead w) (h : ¬ dateOk y m d) (h' : dateOk y' m' d') :
    Calls Tryd.prog 9 #[dateV y m d, dateV y' m' d'] w fun e w' => e = .returned (.bool true) ∧ Below w.heap.size w w' := by
  have HWE := Lib.hid (week_weeks_ok 2020)
  have w53 : weeksV 2020 = 53 := by decide
  have HA := Lib.hid hA
  have HNA := Lib.hid (fun w hA => date_number_no y m d w hA h)
  have HWA := Lib.hid (fun w hA => week_of_no y m d w hA h)
  have HNB := Lib.hid (fun w hA => date_number_ok y' m' d' w hA h')
  have HWB := Lib.hid (fun w hA => week_of_ok y' m' d' w hA h')
  generalize wkY y' (numV y' m' d') = Y' at *
  generalize wkW y' (numV y' m' d') = K' at *
  generalize wkD (numV y' m' d') = D' at *
  generalize numV y' m' d' = nB at *
  clear h h' hA
  go_enter Tryd.func9, Tryd.ntmps9
  go_wp2_with fail
  refine (HWE.out _ (by omega) (by omega)).mono ?_
  rw [w53]
  rintro e wz ⟨rfl, rfl⟩
  have HA0 := Lib.hid ((HA.out.alloc (.cells #[.int .i64 y, .int .i64 m, .int .i64 d] 27)).alloc (.cells #[.int .i64 y', .int .i64 m', .int .i64 d'] 27))
  go_wp2_with fail
  refine (HNA.out _ HA0.out).mono ?_
  rintro e w1 ⟨rfl, h1⟩
  have s1 := h1.size
  simp at s1
  have HA1 := Lib.hid (HA0.out.below h1)
  have a0_w1 : w1.cell? ⟨w.heap.size, 0, none⟩ = some (.int .i64 y) := carry h1 (by go_simp)
  have a1_w1 : w1.cell? ⟨w.heap.size, 1, none⟩ = some (.int .i64 m) := carry h1 (by go_simp)
  have a2_w1 : w1.cell? ⟨w.heap.size, 2, none⟩ = some (.int .i64 d) := carry h1 (by go_simp)
  have b0_w1 : w1.cell? ⟨w.heap.size + 1, 0, none⟩ = some (.int .i64 y') := carry h1 (by go_simp)
  have b1_w1 : w1.cell? ⟨w.heap.size + 1, 1, none⟩ = some (.int .i64 m') := carry h1 (by go_simp)
  have b2_w1 : w1.cell? ⟨w.heap.size + 1, 2, none⟩ = some (.int .i64 d') := carry h1 (by go_simp)
  go_wp2_with fail
  refine (HNB.out _ HA1.out).mono ?_
  rintro e w2 ⟨rfl, h2⟩
  have s2 := h2.size
  have HA2 := Lib.hid (HA1.out.below h2)
  have a0_w2 : w2.cell? ⟨w.heap.size, 0, none⟩ = some (.int .i64 y) := carry h2 (by go_simp)
  have a1_w2 : w2.cell? ⟨w.heap.size, 1, none⟩ = some (.int .i64 m) := carry h2 (by go_simp)
  have a2_w2 : w2.cell? ⟨w.heap.size, 2, none⟩ = some (.int .i64 d) := carry h2 (by go_simp)
  have b0_w2 : w2.cell? ⟨w.heap.size + 1, 0, none⟩ = some (.int .i64 y') := carry h2 (by go_simp)
  have b1_w2 : w2.cell? ⟨w.heap.size + 1, 1, none⟩ = some (.int .i64 m') := carry h2 (by go_simp)
  have b2_w2 : w2.cell? ⟨w.heap.size + 1, 2, none⟩ = some (.int .i64 d') := carry h2 (by go_simp)
  clear a0_w1 a1_w1 a2_w1 b0_w1 b1_w1 b2_w1
  go_wp2_with fail
  refine (HWA.out _ HA2.out).mono ?_
  rintro e w3 ⟨rfl, h3⟩
  have s3 := h3.size
  have HA3 := Lib.hid ((HA2.out.below h3).alloc (.cells #[.int .i64 0, .int .i64 0, .int .i64 0] 32))
  have b0_w3 : w3.cell? ⟨w.heap.size + 1, 0, none⟩ = some (.int .i64 y') := carry h3 (by go_simp)
  have b1_w3 : w3.cell? ⟨w.heap.size + 1, 1, none⟩ = some (.int .i64 m') := carry h3 (by go_simp)
  have b2_w3 : w3.cell? ⟨w.heap.size + 1, 2, none⟩ = some (.int .i64 d') := carry h3 (by go_simp)
  clear a0_w2 a1_w2 a2_w2 b0_w2 b1_w2 b2_w2
  have q3 := lt_of_cell b0_w3
  go_wp2_with fail
  refine (HWB.out _ HA3.out).mono ?_
  rintro e w4 ⟨rfl, h4⟩
  have s4 := h4.size
  simp at s4
  clear b0_w3 b1_w3 b2_w3
  go_wp2_with fail
  all_goals go_ret
  all_goals exact ⟨rfl, (by (repeat (first | with_reducible exact Below.refl _ _ | with_reducible refine bel_set ?_ ?_ | with_reducible refine bel_alloc ?_ ?_ | with_reducible refine Below.drew ?_ | with_reducible refine bel_drewN _ ?_ | with_reducible refine bel_call ?_ (by assumption) ?_)); all_goals (first | (simp; done) | omega | (simp; omega)))⟩

set_option maxHeartbeats 1000000 in
theorem order_bad3 (y m d y' m' d' : Int) (w : World) (hA : Ahead w) (h : dateOk y m d) (h' : ¬ dateOk y' m' d') :
    Calls Tryd.prog 9 #[dateV y m d, dateV y' m' d'] w fun e w' => e = .returned (.bool true) ∧ Below w.heap.size w w' := by
  have HWE := Lib.hid (week_weeks_ok 2020)
  have w53 : weeksV 2020 = 53 := by decide
  have HA := Lib.hid hA
  have HNA := Lib.hid (fun w hA => date_number_ok y m d w hA h)
  have HWA := Lib.hid (fun w hA => week_of_ok y m d w hA h)
  generalize wkY y (numV y m d) = Y at *
  generalize wkW y (numV y m d) = K at *
  generalize wkD (numV y m d) = D at *
  generalize numV y m d = nA at *
  have HNB := Lib.hid (fun w hA => date_number_no y' m' d' w hA h')
  have HWB := Lib.hid (fun w hA => week_of_no y' m' d' w hA h')
  clear h h' hA
  go_enter Tryd.func9, Tryd.ntmps9
  go_wp2_with fail
  refine (HWE.out _ (by omega) (by omega)).mono ?_
  rw [w53]
  rintro e wz ⟨rfl, rfl⟩
  have HA0 := Lib.hid ((HA.out.alloc (.cells #[.int .i64 y, .int .i64 m, .int .i64 d] 27)).alloc (.cells #[.int .i64 y', .int .i64 m', .int .i64 d'] 27))
  go_wp2_with fail
  refine (HNA.out _ HA0.out).mono ?_
  rintro e w1 ⟨rfl, h1⟩
  have s1 := h1.size
  simp at s1
  have HA1 := Lib.hid (HA0.out.below h1)
  have a0_w1 : w1.cell? ⟨w.heap.size, 0, none⟩ = some (.int .i64 y) := carry h1 (by go_simp)
  have a1_w1 : w1.cell? ⟨w.heap.size, 1, none⟩ = some (.int .i64 m) := carry h1 (by go_simp)
  have a2_w1 : w1.cell? ⟨w.heap.size, 2, none⟩ = some (.int .i64 d) := carry h1 (by go_simp)
  have b0_w1 : w1.cell? ⟨w.heap.size + 1, 0, none⟩ = some (.int .i64 y') := carry h1 (by go_simp)
  have b1_w1 : w1.cell? ⟨w.heap.size + 1, 1, none⟩ = some (.int .i64 m') := carry h1 (by go_simp)
  have b2_w1 : w1.cell? ⟨w.heap.size + 1, 2, none⟩ = some (.int .i64 d') := carry h1 (by go_simp)
  go_wp2_with fail
  refine (HNB.out _ HA1.out).mono ?_
  rintro e w2 ⟨rfl, h2⟩
  have s2 := h2.size
  have HA2 := Lib.hid (HA1.out.below h2)
  have a0_w2 : w2.cell? ⟨w.heap.size, 0, none⟩ = some (.int .i64 y) := carry h2 (by go_simp)
  have a1_w2 : w2.cell? ⟨w.heap.size, 1, none⟩ = some (.int .i64 m) := carry h2 (by go_simp)
  have a2_w2 : w2.cell? ⟨w.heap.size, 2, none⟩ = some (.int .i64 d) := carry h2 (by go_simp)
  have b0_w2 : w2.cell? ⟨w.heap.size + 1, 0, none⟩ = some (.int .i64 y') := carry h2 (by go_simp)
  have b1_w2 : w2.cell? ⟨w.heap.size + 1, 1, none⟩ = some (.int .i64 m') := carry h2 (by go_simp)
  have b2_w2 : w2.cell? ⟨w.heap.size + 1, 2, none⟩ = some (.int .i64 d') := carry h2 (by go_simp)
  clear a0_w1 a1_w1 a2_w1 b0_w1 b1_w1 b2_w1
  go_wp2_with fail
  refine (HWA.out _ HA2.out).mono ?_
  rintro e w3 ⟨rfl, h3⟩
  have s3 := h3.size
  have HA3 := Lib.hid ((HA2.out.below h3).alloc (.cells #[.int .i64 Y, .int .i64 K, .int .i64 D] 32))
  have b0_w3 : w3.cell? ⟨w.heap.size + 1, 0, none⟩ = some (.int .i64 y') := carry h3 (by go_simp)
  have b1_w3 : w3.cell? ⟨w.heap.size + 1, 1, none⟩ = some (.int .i64 m') := carry h3 (by go_simp)
  have b2_w3 : w3.cell? ⟨w.heap.size + 1, 2, none⟩ = some (.int .i64 d') := carry h3 (by go_simp)
  clear a0_w2 a1_w2 a2_w2 b0_w2 b1_w2 b2_w2
  have q3 := lt_of_cell b0_w3
  go_wp2_with fail
  refine (HWB.out _ HA3.out).mono ?_
  rintro e w4 ⟨rfl, h4⟩
  have s4 := h4.size
  simp at s4
  clear b0_w3 b1_w3 b2_w3
  go_wp2_with fail
  all_goals go_ret
  all_goals exact ⟨rfl, (by (repeat (first | with_reducible exact Below.refl _ _ | with_reducible refine bel_set ?_ ?_ | with_reducible refine bel_alloc ?_ ?_ | with_reducible refine Below.drew ?_ | with_reducible refine bel_drewN _ ?_ | with_reducible refine bel_call ?_ (by assumption) ?_)); all_goals (first | (simp; done) | omega | (simp; omega)))⟩

end Go.Proofs.YtbbafdhgoekdiaaDoor
