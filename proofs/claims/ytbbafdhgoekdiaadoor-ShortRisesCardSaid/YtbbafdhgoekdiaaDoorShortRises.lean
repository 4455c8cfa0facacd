/- ShortRises: the law's walk. -/
import Derived.Test.YtbbafdhgoekdiaaDoorShort
import Derived.Test.YtbbafdhgoekdiaaDoorRank
namespace Go.Proofs.YtbbafdhgoekdiaaDoor
open Go.RowKit

theorem rank_digit (u : Nat) : rankC (UInt8.ofNat (48 + u % 10)) = 0 := by
  have : ∀ r : Fin 10, rankC (UInt8.ofNat (48 + r.val)) = 0 := by decide
  exact this ⟨u % 10, Nat.mod_lt _ (by omega)⟩
theorem rank_letter (k : Nat) (h : k < 4) : rankC (letter k) = (k : Int) + 1 := by
  rcases (show k = 0 ∨ k = 1 ∨ k = 2 ∨ k = 3 by omega) with rfl | rfl | rfl | rfl <;> decide
theorem shortL_last (n : Int) (h0 : 0 ≤ n) (h1 : n ≤ 1000000000000000) : ∃ l c, shortL n = l ++ [c] ∧ rankC c = shortK n ∧ l.length ≤ 60 := by
  have hq := shortQ_bd n h0 h1 (shortK n)
  have h4 := shortK_le n
  have hx : 0 ≤ shortX n (shortK n) ∧ shortX n (shortK n) ≤ 9 := by unfold shortX; split <;> omega
  have l1 := itoa_len (shortQ n (shortK n)) (by omega) (by omega)
  have l2 := itoa_len (shortX n (shortK n)) (by omega) (by omega)
  by_cases hk : shortK n = 0
  · obtain ⟨l, u, hl⟩ := itoa_last (shortQ n (shortK n)) hq.1
    refine ⟨l, UInt8.ofNat (48 + u % 10), ?_, by rw [rank_digit, hk]; rfl, ?_⟩
    · unfold shortL
      rw [hl]
      have : shortX n (shortK n) = 0 := by unfold shortX; rw [if_pos hk]
      rw [if_neg (by omega), hk]
      simp [signL]
    · rw [hl] at l1; simp at l1; omega
  · refine ⟨_, letter (shortK n - 1), by unfold shortL signL; rw [if_neg hk], by rw [rank_letter _ (by omega)]; omega, ?_⟩
    rw [List.length_append]
    split <;> simp <;> omega

theorem short_rank (n : Int) (h0 : 0 ≤ n) (h1 : n ≤ 1000000000000000) : ∃ A : ByteArray, 0 < A.size ∧ A.size ≤ 100 ∧
    (∀ w, Pow w → Calls Tryd.prog 16 #[.int .i64 n] w fun e w' => e = .returned (.tuple #[.string A, .nilIface]) ∧ Below w.heap.size w w') ∧
    (∀ w, Calls Tryd.prog 18 #[.string A] w fun e w' => e = .returned (.int .i64 (shortK n)) ∧ ∃ k, w' = w.drewN k) := by
  obtain ⟨l, c, hl, hr, hlen⟩ := shortL_last n h0 h1
  have hsz : (⟨(shortL n).toArray⟩ : ByteArray).size = l.length + 1 := by
    show (shortL n).toArray.size = _
    rw [hl]; simp
  refine ⟨⟨(shortL n).toArray⟩, by omega, by omega, fun w hP => short_ok n w hP h0 h1, fun w => ?_⟩
  rw [← hr]
  refine rank_any _ c w (by omega) (by omega) ?_
  show (shortL n).toArray[(shortL n).toArray.size - 1]'_ = c
  simp [hl]

theorem short_fact (w : World) (hP : Pow w) : Calls Tryd.prog 16 #[.int .i64 1250] w fun e w' => e = .returned (.tuple #[.string ⟨#[49, 46, 50, 75]⟩, .nilIface]) ∧ Below w.heap.size w w' := by
  have e : shortL 1250 = [49, 46, 50, 75] := by
    have k1 : shortK 1250 = 1 := by decide
    have q1 : shortQ 1250 1 = 1 := by decide
    have x1 : shortX 1250 1 = 2 := by decide
    have i1 : Lib.itoa 1 = [49] := by unfold Lib.itoa; rw [if_neg (by omega), Lib.decDigits, dif_pos (by decide)]; rfl
    have i2 : Lib.itoa 2 = [50] := by unfold Lib.itoa; rw [if_neg (by omega), Lib.decDigits, dif_pos (by decide)]; rfl
    unfold shortL
    rw [k1, q1, x1, i1, i2, if_pos (by omega)]
    rfl
  have := short_ok 1250 w hP (by omega) (by omega)
  rw [e] at this
  exact this

theorem parts_no (n u : Int) (w : World) (h : ¬ (0 ≤ n ∧ n ≤ 1000000000000000 ∧ 1 ≤ u ∧ u ≤ 1000000)) :
    Calls Tryd.prog 17 #[.int .i64 n, .int .i64 u] w fun e w' => e = .returned (.tuple #[.int .i64 0, .int .i64 0, errV 1]) ∧ w = w' := by
  go_enter Tryd.func17, Tryd.ntmps17
  go_wp2_with fail
  all_goals go_ret3
  all_goals exact ⟨rfl, rfl⟩

theorem parts_ok (n u : Int) (w : World) (h0 : 0 ≤ n) (h1 : n ≤ 1000000000000000) (h2 : 1 ≤ u) (h3 : u ≤ 1000000) :
    Calls Tryd.prog 17 #[.int .i64 n, .int .i64 u] w fun e w' => e = .returned (.tuple #[.int .i64 (n / u), .int .i64 (n % u), .nilIface]) ∧ ∃ k, w' = w.drewN k := by
  go_enter Tryd.func17, Tryd.ntmps17
  go_wp2_with fail
  go_quiet (fail)
  go_wp2_with fail
  go_ret3
  exact ⟨rfl, _, rfl⟩

theorem short_any (m : Int) (w : World) (hP : Pow w) : ∃ (B : ByteArray) (E : Value), Calls Tryd.prog 16 #[.int .i64 m] w fun e w' => e = .returned (.tuple #[.string B, E]) ∧ Below w.heap.size w w' := by
  by_cases h : 0 ≤ m ∧ m ≤ 1000000000000000
  · exact ⟨_, _, short_ok m w hP h.1 h.2⟩
  · exact ⟨_, _, (short_no m w h).mono fun e w' ⟨h1, h2⟩ => ⟨h1, h2 ▸ Below.refl _ _⟩⟩

theorem rises_no1 (n m u : Int) (w : World) (hP : Pow w) (h : ¬ (0 ≤ n ∧ n ≤ 1000000000000000)) :
    Calls Tryd.prog 6 #[.int .i64 n, .int .i64 m, .int .i64 u] w fun e w' => e = .returned (.bool true) ∧ Below w.heap.size w w' := by
  have HP := Lib.hid hP
  clear hP
  go_enter Tryd.func6, Tryd.ntmps6
  go_wp2_with fail
  refine (short_fact _ HP.out).mono ?_
  rintro e w1 ⟨rfl, hb1⟩
  have HP1 := Lib.hid (HP.out.below hb1)
  have s1 := hb1.size
  go_wp2_with fail
  refine (short_no n _ h).mono ?_
  rintro e w2 ⟨rfl, rfl⟩
  obtain ⟨B, E, hm⟩ := short_any m w1 HP1.out
  have HM := Lib.hid hm
  clear hm
  go_wp2_with fail
  refine HM.out.mono ?_
  rintro e w3 ⟨rfl, hb3⟩
  have s3 := hb3.size
  go_wp2_with fail
  all_goals go_ret
  all_goals exact ⟨rfl, (by (repeat (first | with_reducible exact Below.refl _ _ | with_reducible refine bel_set ?_ ?_ | with_reducible refine bel_alloc ?_ ?_ | with_reducible refine Below.drew ?_ | with_reducible refine bel_drewN _ ?_ | with_reducible refine bel_call ?_ (by assumption) ?_)); all_goals (first | (simp; done) | omega | (simp; omega)))⟩

theorem rises_no2 (n m u : Int) (w : World) (hP : Pow w) (h0 : 0 ≤ n) (h1 : n ≤ 1000000000000000) (h : ¬ (0 ≤ m ∧ m ≤ 1000000000000000)) :
    Calls Tryd.prog 6 #[.int .i64 n, .int .i64 m, .int .i64 u] w fun e w' => e = .returned (.bool true) ∧ Below w.heap.size w w' := by
  have HP := Lib.hid hP
  clear hP
  go_enter Tryd.func6, Tryd.ntmps6
  go_wp2_with fail
  refine (short_fact _ HP.out).mono ?_
  rintro e w1 ⟨rfl, hb1⟩
  have HP1 := Lib.hid (HP.out.below hb1)
  have s1 := hb1.size
  go_wp2_with fail
  obtain ⟨A, hA0, hA1, hT, hR⟩ := short_rank n h0 h1
  have HT := Lib.hid hT
  clear hT hR
  refine (HT.out w1 HP1.out).mono ?_
  rintro e w2 ⟨rfl, hb2⟩
  have s2 := hb2.size
  go_wp2_with fail
  refine (short_no m _ h).mono ?_
  rintro e w3 ⟨rfl, rfl⟩
  go_wp2_with fail
  all_goals go_ret
  all_goals exact ⟨rfl, (by (repeat (first | with_reducible exact Below.refl _ _ | with_reducible refine bel_set ?_ ?_ | with_reducible refine bel_alloc ?_ ?_ | with_reducible refine Below.drew ?_ | with_reducible refine bel_drewN _ ?_ | with_reducible refine bel_call ?_ (by assumption) ?_)); all_goals (first | (simp; done) | omega | (simp; omega)))⟩

theorem rises_gt (n m u : Int) (w : World) (hP : Pow w) (h0 : 0 ≤ n) (h1 : n ≤ 1000000000000000) (h2 : 0 ≤ m) (h3 : m ≤ 1000000000000000) (h : m < n) :
    Calls Tryd.prog 6 #[.int .i64 n, .int .i64 m, .int .i64 u] w fun e w' => e = .returned (.bool true) ∧ Below w.heap.size w w' := by
  have HP := Lib.hid hP
  clear hP
  go_enter Tryd.func6, Tryd.ntmps6
  go_wp2_with fail
  refine (short_fact _ HP.out).mono ?_
  rintro e w1 ⟨rfl, hb1⟩
  have HP1 := Lib.hid (HP.out.below hb1)
  have s1 := hb1.size
  go_wp2_with fail
  obtain ⟨A, hA0, hA1, hT, hR⟩ := short_rank n h0 h1
  have HT := Lib.hid hT
  have HR := Lib.hid hR
  clear hT hR
  refine (HT.out w1 HP1.out).mono ?_
  rintro e w2 ⟨rfl, hb2⟩
  have HP2 := Lib.hid (HP1.out.below hb2)
  have s2 := hb2.size
  obtain ⟨B, hB0, hB1, hT2, hR2⟩ := short_rank m h2 h3
  have HT2 := Lib.hid hT2
  have HR2 := Lib.hid hR2
  clear hT2 hR2
  go_wp2_with fail
  refine (HT2.out w2 HP2.out).mono ?_
  rintro e w3 ⟨rfl, hb3⟩
  have s3 := hb3.size
  clear HP HP1 HP2
  go_wp2_with fail
  all_goals go_ret
  all_goals exact ⟨rfl, (by (repeat (first | with_reducible exact Below.refl _ _ | with_reducible refine bel_set ?_ ?_ | with_reducible refine bel_alloc ?_ ?_ | with_reducible refine Below.drew ?_ | with_reducible refine bel_drewN _ ?_ | with_reducible refine bel_call ?_ (by assumption) ?_)); all_goals (first | (simp; done) | omega | (simp; omega)))⟩

theorem rises_ok (n m u : Int) (w : World) (hP : Pow w) (h0 : 0 ≤ n) (h1 : n ≤ 1000000000000000) (h2 : 0 ≤ m) (h3 : m ≤ 1000000000000000) (h : n ≤ m) (h4 : 1 ≤ u) (h5 : u ≤ 1000000) :
    Calls Tryd.prog 6 #[.int .i64 n, .int .i64 m, .int .i64 u] w fun e w' => e = .returned (.bool true) ∧ Below w.heap.size w w' := by
  have HP := Lib.hid hP
  clear hP
  go_enter Tryd.func6, Tryd.ntmps6
  go_wp2_with fail
  refine (short_fact _ HP.out).mono ?_
  rintro e w1 ⟨rfl, hb1⟩
  have HP1 := Lib.hid (HP.out.below hb1)
  have s1 := hb1.size
  go_wp2_with fail
  obtain ⟨A, hA0, hA1, hT, hR⟩ := short_rank n h0 h1
  have HT := Lib.hid hT
  have HR := Lib.hid hR
  clear hT hR
  refine (HT.out w1 HP1.out).mono ?_
  rintro e w2 ⟨rfl, hb2⟩
  have HP2 := Lib.hid (HP1.out.below hb2)
  have s2 := hb2.size
  obtain ⟨B, hB0, hB1, hT2, hR2⟩ := short_rank m h2 h3
  have HT2 := Lib.hid hT2
  have HR2 := Lib.hid hR2
  clear hT2 hR2
  go_wp2_with fail
  refine (HT2.out w2 HP2.out).mono ?_
  rintro e w3 ⟨rfl, hb3⟩
  have s3 := hb3.size
  clear HP HP1 HP2
  go_wp2_with fail
  refine (parts_ok n u _ h0 h1 h4 h5).mono ?_
  rintro e w4 ⟨rfl, x4, rfl⟩
  have d0 : n / u * u + n % u = n := by have := Int.mul_ediv_add_emod n u; rw [Int.mul_comm u] at this; omega
  have d1 : 0 ≤ n / u := Int.ediv_nonneg h0 (by omega)
  have d2 : 0 ≤ n % u := Int.emod_nonneg _ (by omega)
  have d3 : n % u < u := Int.emod_lt_of_pos _ (by omega)
  have d4 : 0 ≤ n / u * u := Int.mul_nonneg d1 (by omega)
  generalize n / u = p at *
  generalize n % u = q at *
  have d5 : p * u ≤ 1000000000000000 := by omega
  have d6 : (p * u + q != n) = false := by simp [d0]
  have D := Lib.hid d6
  have hk := shortK_mono n m h
  generalize shortK n = kn at *
  generalize shortK m = km at *
  have t1 : decide ((kn : Int) ≤ (km : Int)) = true := by simp; omega
  have T1 := Lib.hid t1
  by_cases hlt : kn < km
  · have T2 := Lib.hid (show decide ((kn : Int) < (km : Int)) = true by simp; omega)
    go_wp2_with fail
    refine (HR.out _).mono ?_
    rintro e w5 ⟨rfl, x5, rfl⟩
    go_wp2_with fail
    refine (HR2.out _).mono ?_
    rintro e w6 ⟨rfl, x6, rfl⟩
    go_wp2_with fail
    refine (HR.out _).mono ?_
    rintro e w5 ⟨rfl, x7, rfl⟩
    go_wp2_with fail
    refine (HR2.out _).mono ?_
    rintro e w6 ⟨rfl, x8, rfl⟩
    go_wp2_with fail
    all_goals go_ret
    all_goals exact ⟨rfl, (by (repeat (first | with_reducible exact Below.refl _ _ | with_reducible refine bel_set ?_ ?_ | with_reducible refine bel_alloc ?_ ?_ | with_reducible refine Below.drew ?_ | with_reducible refine bel_drewN _ ?_ | with_reducible refine bel_call ?_ (by assumption) ?_)); all_goals (first | (simp; done) | omega | (simp; omega)))⟩
  · obtain rfl : kn = km := by omega
    go_wp2_with fail
    refine (HR.out _).mono ?_
    rintro e w5 ⟨rfl, x5, rfl⟩
    go_wp2_with fail
    refine (HR2.out _).mono ?_
    rintro e w6 ⟨rfl, x6, rfl⟩
    go_wp2_with fail
    refine (HR.out _).mono ?_
    rintro e w5 ⟨rfl, x7, rfl⟩
    go_wp2_with fail
    refine (HR2.out _).mono ?_
    rintro e w6 ⟨rfl, x8, rfl⟩
    go_wp2_with fail
    all_goals go_ret
    all_goals exact ⟨rfl, (by (repeat (first | with_reducible exact Below.refl _ _ | with_reducible refine bel_set ?_ ?_ | with_reducible refine bel_alloc ?_ ?_ | with_reducible refine Below.drew ?_ | with_reducible refine bel_drewN _ ?_ | with_reducible refine bel_call ?_ (by assumption) ?_)); all_goals (first | (simp; done) | omega | (simp; omega)))⟩
theorem rises_ok' (n m u : Int) (w : World) (hP : Pow w) (h0 : 0 ≤ n) (h1 : n ≤ 1000000000000000) (h2 : 0 ≤ m) (h3 : m ≤ 1000000000000000) (h : n ≤ m) (h4 : ¬ (1 ≤ u ∧ u ≤ 1000000)) :
    Calls Tryd.prog 6 #[.int .i64 n, .int .i64 m, .int .i64 u] w fun e w' => e = .returned (.bool true) ∧ Below w.heap.size w w' := by
  have HP := Lib.hid hP
  clear hP
  go_enter Tryd.func6, Tryd.ntmps6
  go_wp2_with fail
  refine (short_fact _ HP.out).mono ?_
  rintro e w1 ⟨rfl, hb1⟩
  have HP1 := Lib.hid (HP.out.below hb1)
  have s1 := hb1.size
  go_wp2_with fail
  obtain ⟨A, hA0, hA1, hT, hR⟩ := short_rank n h0 h1
  have HT := Lib.hid hT
  have HR := Lib.hid hR
  clear hT hR
  refine (HT.out w1 HP1.out).mono ?_
  rintro e w2 ⟨rfl, hb2⟩
  have HP2 := Lib.hid (HP1.out.below hb2)
  have s2 := hb2.size
  obtain ⟨B, hB0, hB1, hT2, hR2⟩ := short_rank m h2 h3
  have HT2 := Lib.hid hT2
  have HR2 := Lib.hid hR2
  clear hT2 hR2
  go_wp2_with fail
  refine (HT2.out w2 HP2.out).mono ?_
  rintro e w3 ⟨rfl, hb3⟩
  have s3 := hb3.size
  clear HP HP1 HP2
  go_wp2_with fail
  refine (parts_no n u _ (by omega)).mono ?_
  rintro e w4 ⟨rfl, rfl⟩
  have hk := shortK_mono n m h
  generalize shortK n = kn at *
  generalize shortK m = km at *
  have t1 : decide ((kn : Int) ≤ (km : Int)) = true := by simp; omega
  have T1 := Lib.hid t1
  by_cases hlt : kn < km
  · have T2 := Lib.hid (show decide ((kn : Int) < (km : Int)) = true by simp; omega)
    go_wp2_with fail
    refine (HR.out _).mono ?_
    rintro e w5 ⟨rfl, x5, rfl⟩
    go_wp2_with fail
    refine (HR2.out _).mono ?_
    rintro e w6 ⟨rfl, x6, rfl⟩
    go_wp2_with fail
    refine (HR.out _).mono ?_
    rintro e w5 ⟨rfl, x7, rfl⟩
    go_wp2_with fail
    refine (HR2.out _).mono ?_
    rintro e w6 ⟨rfl, x8, rfl⟩
    go_wp2_with fail
    all_goals go_ret
    all_goals exact ⟨rfl, (by (repeat (first | with_reducible exact Below.refl _ _ | with_reducible refine bel_set ?_ ?_ | with_reducible refine bel_alloc ?_ ?_ | with_reducible refine Below.drew ?_ | with_reducible refine bel_drewN _ ?_ | with_reducible refine bel_call ?_ (by assumption) ?_)); all_goals (first | (simp; done) | omega | (simp; omega)))⟩
  · obtain rfl : kn = km := by omega
    go_wp2_with fail
    refine (HR.out _).mono ?_
    rintro e w5 ⟨rfl, x5, rfl⟩
    go_wp2_with fail
    refine (HR2.out _).mono ?_
    rintro e w6 ⟨rfl, x6, rfl⟩
    go_wp2_with fail
    refine (HR.out _).mono ?_
    rintro e w5 ⟨rfl, x7, rfl⟩
    go_wp2_with fail
    refine (HR2.out _).mono ?_
    rintro e w6 ⟨rfl, x8, rfl⟩
    go_wp2_with fail
    all_goals go_ret
    all_goals exact ⟨rfl, (by (repeat (first | with_reducible exact Below.refl _ _ | with_reducible refine bel_set ?_ ?_ | with_reducible refine bel_alloc ?_ ?_ | with_reducible refine Below.drew ?_ | with_reducible refine bel_drewN _ ?_ | with_reducible refine bel_call ?_ (by assumption) ?_)); all_goals (first | (simp; done) | omega | (simp; omega)))⟩
end Go.Proofs.YtbbafdhgoekdiaaDoor
